/- works: it returns true and changes nothing that was there. Condition: the table of trailing zeros lies in its block. -/
import Derived.Test.YtcdnflffpeijfaaDoorMade
import Derived.Test.YtcdnflffpeijfaaDoorListed
import Derived.Test.YtcdnflffpeijfaaDoorEqual
import Derived.Test.YtcdnflffpeijfaaDoorLaid
import Derived.Test.YtcdnflffpeijfaaDoorStep
namespace Go.Proofs.YtcdnflffpeijfaaDoor
open Go.RowKit

section
variable {w : World} {b gb n : Nat} {p : Nat → Bool}
theorem New_e (i : Int) (n : Nat) (e : i = n) (h1 : 1 ≤ n) (h2 : n ≤ 4096) (w : World) : Calls Tryd.prog 15 #[.int .i64 i] w fun e w' => ∃ b gb, e = .returned (.tuple #[.pointer (some ⟨b, 0, none⟩), .int .i64 0]) ∧ SetOf w' b gb n noneP ∧ Keeps [] w w' ∧ w.heap.size ≤ b ∧ w.heap.size ≤ gb := by
  subst e
  refine (New_p h1 h2 w).mono ?_
  rintro e w' ⟨he, hs, hk⟩
  exact ⟨_, _, he, hs, hk, by omega, Nat.le_refl _⟩
theorem Add_e (h : SetOf w b gb n p) (i : Int) (j : Nat) (e : i = j) (hj : j < n) : Calls Tryd.prog 16 #[.pointer (some ⟨b, 0, none⟩), .int .i64 i] w fun e w' => e = .returned (.int .i64 0) ∧ SetOf w' b gb n (withP p j) ∧ Keeps [gb] w w' := by
  subst e
  exact Add_p h hj
theorem Remove_e (h : SetOf w b gb n p) (i : Int) (j : Nat) (e : i = j) (hj : j < n) : Calls Tryd.prog 17 #[.pointer (some ⟨b, 0, none⟩), .int .i64 i] w fun e w' => e = .returned (.int .i64 0) ∧ SetOf w' b gb n (lessP p j) ∧ Keeps [gb] w w' := by
  subst e
  exact Remove_p h hj
end

theorem All_e {w : World} {b gb n : Nat} {p : Nat → Bool} (h : SetOf w b gb n p) (hT : Table w) (L : List Nat) (e : picks n p = L) : Calls Tryd.prog 22 #[.pointer (some ⟨b, 0, none⟩)] w (AllPost L w) := e ▸ All_p h hT
theorem Next_e {w : World} {b gb n : Nat} {p : Nat → Bool} (h : SetOf w b gb n p) (hT : Table w) (fr : Int) (hfr : fr ≤ 9223372036854775807) (x : Int) (t : Bool) (e : firstOf (picks n (fromP fr p)) = (x, t)) : Calls Tryd.prog 11 #[.pointer (some ⟨b, 0, none⟩), .int .i64 fr] w fun e w' => e = .returned (.tuple #[.int .i64 x, .bool t]) ∧ Keeps [] w w' := by
  have := Next_p h hT hfr
  rw [e] at this
  exact this
theorem Equal_e {w : World} {v u : Value} {xs ys : List Int} (hv : SlI w v xs) (hu : SlI w u ys) (e : xs = ys) : Calls Tryd.prog 13 #[v, u] w fun e w' => e = .returned (.bool true) ∧ ∃ n, w' = w.drewN n := by
  refine (equal_any hv hu).mono ?_
  rintro e' w' ⟨he, hn⟩
  rw [decide_eq_true e] at he
  exact ⟨he, hn⟩
/-- The chapter's examples: what is added, and what is answered. -/
def caseI (k : Nat) : Int := [0, 129, 64, 64, 130, -1].getD k 0
def caseW (k : Nat) : Int := [0, 0, 0, 0, 3, 3].getD k 0
def caseP (k : Nat) : Nat → Bool := ([0, 129, 64, 64].take k).foldl withP noneP
def caseC : Array Value := #[.int .i64 0, .int .i64 0, .int .i64 129, .int .i64 0, .int .i64 64, .int .i64 0, .int .i64 64, .int .i64 0, .int .i64 130, .int .i64 3, .int .i64 (-1), .int .i64 3]
theorem case_cell {w : World} {g : Nat} (h : Blk w g 63 caseC) {k : Nat} (hk : k < 6) : w.cell? ⟨g, k * 2, none⟩ = some (.int .i64 (caseI k)) ∧ w.cell? ⟨g, k * 2 + 1, none⟩ = some (.int .i64 (caseW k)) := by
  rw [h.cell, h.cell]
  match k, hk with
  | 0, _ => exact ⟨rfl, rfl⟩
  | 1, _ => exact ⟨rfl, rfl⟩
  | 2, _ => exact ⟨rfl, rfl⟩
  | 3, _ => exact ⟨rfl, rfl⟩
  | 4, _ => exact ⟨rfl, rfl⟩
  | 5, _ => exact ⟨rfl, rfl⟩
theorem case_add {w : World} {b gb : Nat} {k : Nat} (h : SetOf w b gb 130 (caseP k)) (hk : k < 6) : Calls Tryd.prog 16 #[.pointer (some ⟨b, 0, none⟩), .int .i64 (caseI k)] w fun e w' => e = .returned (.int .i64 (caseW k)) ∧ SetOf w' b gb 130 (caseP (k + 1)) ∧ Keeps [gb] w w' := by
  match k, hk with
  | 0, _ => exact Add_e h 0 0 rfl (by decide)
  | 1, _ => exact Add_e h 129 129 rfl (by decide)
  | 2, _ => exact Add_e h 64 64 rfl (by decide)
  | 3, _ => exact Add_e h 64 64 rfl (by decide)
  | 4, _ =>
    refine (Add_op h (i := 130) (.inr (by decide))).mono ?_
    rintro e w' ⟨he, rfl⟩
    exact ⟨he, h, Keeps.refl _ _⟩
  | 5, _ =>
    refine (Add_op h (i := -1) (.inl (by decide))).mono ?_
    rintro e w' ⟨he, rfl⟩
    exact ⟨he, h, Keeps.refl _ _⟩

set_option maxRecDepth 1000000 in
set_option maxHeartbeats 4000000 in
theorem works_ok {w : World} (hT : Table w) : Calls Tryd.prog 14 #[] w fun e w' => e = .returned (.bool true) ∧ Keeps [] w w' := by
  have hpos := hT.pos
  have HT := Lib.hid hT
  clear hT
  go_enter Tryd.func14, Tryd.ntmps14
  go_wp2_with fail
  refine (New_e 130 130 rfl (by decide) (by decide) _).mono ?_
  rintro e w1 ⟨bs, gs, rfl, hs, k1, hbs, hgs⟩
  go_wp2_with fail
  refine (New_e 130 130 rfl (by decide) (by decide) _).mono ?_
  rintro e w2 ⟨bt, gt, rfl, ht, k2, hbt, hgt⟩
  go_wp2_with fail
  refine (New_e 131 131 rfl (by decide) (by decide) _).mono ?_
  rintro e w3 ⟨bu, gu, rfl, hu, k3, hbu, hgu⟩
  have l1 := hs.lt
  have l2 := ht.lt
  have l3 := hu.lt
  have z1 := k1.size
  have z2 := k2.size
  have z3 := k3.size
  have hs3 := (hs.keep0 k2).keep0 k3
  have ht3 := ht.keep0 k3
  have K3 := (k1.trans k2).trans k3
  clear hs ht k1 k2 k3
  go_wp2_with fail
  have hC : Blk (w3.alloc (.cells caseC 63)) w3.heap.size 63 caseC := Blk.new w3 63 caseC
  have K4 := K3.alloc (.cells caseC 63)
  have kk := (Keeps.refl [] w3).alloc (.cells caseC 63)
  have hs4 := hs3.keep0 kk
  have ht4 := ht3.keep0 kk
  have hu4 := hu.keep0 kk
  have z4 : w3.heap.size < (w3.alloc (.cells caseC 63)).heap.size := by simp
  have HW4 : (w3.alloc (.cells #[.int .i64 0, .int .i64 0, .int .i64 129, .int .i64 0, .int .i64 64, .int .i64 0, .int .i64 64, .int .i64 0, .int .i64 130, .int .i64 3, .int .i64 (-1), .int .i64 3] 63)) = w3.alloc (.cells caseC 63) := rfl
  rw [HW4]
  clear kk hs3 ht3 hu K3 HW4
  generalize w3.alloc (.cells caseC 63) = W4 at *
  generalize w3.heap.size = g at *
  go_loopw [44] (fun i wr => ∃ k : Nat, i = .int .i64 k ∧ k ≤ 6 ∧ SetOf wr bs gs 130 (caseP k) ∧ Keeps [gs] W4 wr) (fun i _ => 6 - (intOf i).toNat)
  case atStart => exact ⟨0, rfl, Nat.zero_le _, hs4, Keeps.refl _ _⟩
  case round =>
    obtain ⟨k, rfl, hk, hs, hK⟩ := hrel
    by_cases hk6 : k < 6
    · obtain ⟨c0, c1⟩ := case_cell (hC.keeps hK (by simp; omega)) hk6
      have hgl := hK.size
      go_wp2_with fail
      have bX := Blk.new wr 63 #[.int .i64 (caseI k), .int .i64 (caseW k)]
      have hKV := hK.alloc (.cells #[.int .i64 (caseI k), .int .i64 (caseW k)] 63)
      have hsV := hs.keep0 ((Keeps.refl [] wr).alloc (.cells #[.int .i64 (caseI k), .int .i64 (caseW k)] 63))
      have hgX : gs ≠ wr.heap.size := by have := hs.lt; omega
      clear c0 c1 hs hK hgl
      generalize wr.alloc (.cells #[.int .i64 (caseI k), .int .i64 (caseW k)] 63) = V at *
      generalize wr.heap.size = X at *
      have HA := Lib.hid (case_add hsV.drew hk6)
      have x0 := bX.cellAt 0 _ rfl
      have x1 := bX.cellAt 1 _ rfl
      generalize caseI k = u at *
      generalize caseW k = v at *
      go_region_held3 (fun w' => w'.cell? ⟨X, 0, none⟩ = some (.int .i64 u) ∧ w'.cell? ⟨X, 1, none⟩ = some (.int .i64 v))
        (first | exact ⟨x0, x1⟩ | exact ⟨y0, y1⟩ | assumption | go_keep)
        ((go_at_call 16; refine HA.out.mono ?_; rintro e w5 ⟨rfl, hs5, hk5⟩; have bX5 := bX.drew.keeps hk5 (by simpa using fun e => hgX e.symm); have y0 := bX5.cellAt 0 _ rfl; have y1 := bX5.cellAt 1 _ rfl))
      have hK5 := hKV.drew.trans hk5
      clear bX hsV hKV HA x0 x1 y0 y1 bX5 hk5
      go_wp2_with fail
      go_roundw
      case rel => exact ⟨k + 1, by go_num, by omega, hs5, hK5⟩
      case measure => simp [intOf]; omega
    · obtain rfl : k = 6 := by omega
      have hgs0 : w.heap.size ≤ gs := hgs
      have hK6 := K4.step hK (by simp; omega)
      have ht6 := ht4.keeps hK (by simp; omega) (by simp; omega)
      have hu6 := hu4.keeps hK (by simp; omega) (by simp; omega)
      have HT6 := HT.out.keeps hK6 hpos (by simp)
      clear hs4 ht4 hu4 hC hK
      go_wp2_with fail
      refine (Next_e hs HT6 65 (by decide) 129 true (by decide +kernel)).mono ?_
      rintro e w5 ⟨rfl, k5⟩
      have hs5 := hs.keep0 k5
      have ht5 := ht6.keep0 k5
      have hu5 := hu6.keep0 k5
      have K5 := hK6.trans k5
      clear hs ht6 hu6 hK6 HT6
      go_wp2_with fail
      refine (All_e hs5 (HT.out.keeps K5 hpos (by simp)) [0, 64, 129] (by decide +kernel)).mono ?_
      rintro e w6 ⟨v6, rfl, hv6, k6⟩
      have K6 := K5.trans k6
      have hs6 := hs5.keep0 k6
      have ht6 := ht5.keep0 k6
      have hu6 := hu5.keep0 k6
      clear hs5 ht5 hu5 K5 k5
      have hl6 := hv6.sl (by decide)
      go_wp2_with fail
      refine (Equal_e (hl6.keeps ((Keeps.refl [] w6).alloc _) (by simp)) (SlI.lit (xs := [0, 64, 129]) (Blk.new w6 3 #[.int .i64 0, .int .i64 64, .int .i64 129]) rfl (by decide)) rfl).mono ?_
      rintro e w' ⟨rfl, j, rfl⟩
      have k7 : Keeps [] w6 ((w6.alloc (.cells #[.int .i64 0, .int .i64 64, .int .i64 129] 3)).drewN j) := ((Keeps.refl [] w6).alloc _).drewN j
      have K7 := K6.trans k7
      have hs7 := hs6.keep0 k7
      have ht7 := ht6.keep0 k7
      have hu7 := hu6.keep0 k7
      clear hs6 ht6 hu6 K6 k6 hv6 hl6 k7
      generalize ((w6.alloc (.cells #[.int .i64 0, .int .i64 64, .int .i64 129] 3)).drewN j) = w7 at *
      go_wp2_with fail
      refine (Remove_e hs7 64 64 rfl (by decide)).mono ?_
      rintro e w8 ⟨rfl, hs8, k8⟩
      have K8 := K7.step k8 (by simp; omega)
      have ht8 := ht7.keeps k8 (by simp; omega) (by simp; omega)
      have hu8 := hu7.keeps k8 (by simp; omega) (by simp; omega)
      clear hs7 ht7 hu7 K7 k8
      go_wp2_with fail
      refine (Add_e ht8 5 5 rfl (by decide)).mono ?_
      rintro e w9 ⟨rfl, ht9, k9⟩
      have K9 := K8.step k9 (by simp; omega)
      have hs9 := hs8.keeps k9 (by simp; omega) (by simp; omega)
      have hu9 := hu8.keeps k9 (by simp; omega) (by simp; omega)
      clear hs8 ht8 hu8 K8 k9
      go_wp2_with fail
      refine (Add_e ht9 129 129 rfl (by decide)).mono ?_
      rintro e w10 ⟨rfl, ht10, k10⟩
      have K10 := K9.step k10 (by simp; omega)
      have hs10 := hs9.keeps k10 (by simp; omega) (by simp; omega)
      have hu10 := hu9.keeps k10 (by simp; omega) (by simp; omega)
      clear hs9 ht9 hu9 K9 k10
      go_wp2_with fail
      refine (Union_p hs10 ht10 (by omega)).mono ?_
      rintro e w11 ⟨rfl, hs11, k11⟩
      have K11 := K10.step k11 (by simp; omega)
      have ht11 := ht10.keeps k11 (by simp; omega) (by simp; omega)
      have hu11 := hu10.keeps k11 (by simp; omega) (by simp; omega)
      clear hs10 ht10 hu10 K10 k11
      go_wp2_with fail
      refine (All_e hs11 (HT.out.keeps K11 hpos (by simp)) [0, 5, 129] (by decide +kernel)).mono ?_
      rintro e w12 ⟨v12, rfl, hv12, k12⟩
      have K12 := K11.trans k12
      have hs12 := hs11.keep0 k12
      have ht12 := ht11.keep0 k12
      have hu12 := hu11.keep0 k12
      have l11 := hs11.lt
      clear hs11 ht11 hu11 K11 k12
      go_wp2_with fail
      refine (Minus_p hs12 ht12 (by omega)).mono ?_
      rintro e w13 ⟨rfl, hs13, k13⟩
      have K13 := K12.step k13 (by simp; omega)
      have hv13 := hv12.keeps k13 (fun x hx => by have := hv12.lt x hx; have := hs12.lt; simp; omega)
      have hu13 := hu12.keeps k13 (by simp; omega) (by simp; omega)
      clear hs12 ht12 hu12 K12 k13 hv12
      have hl13 := hv13.sl (by decide)
      go_wp2_with fail
      refine (Equal_e (hl13.keeps ((Keeps.refl [] w13).alloc _) (by simp)) (SlI.lit (xs := [0, 5, 129]) (Blk.new w13 3 #[.int .i64 0, .int .i64 5, .int .i64 129]) rfl (by decide)) rfl).mono ?_
      rintro e w' ⟨rfl, j2, rfl⟩
      have k14 : Keeps [] w13 ((w13.alloc (.cells #[.int .i64 0, .int .i64 5, .int .i64 129] 3)).drewN j2) := ((Keeps.refl [] w13).alloc _).drewN j2
      have K14 := K13.trans k14
      have hs14 := hs13.keep0 k14
      have hu14 := hu13.keep0 k14
      clear hs13 hu13 K13 hv13 hl13 k14
      generalize ((w13.alloc (.cells #[.int .i64 0, .int .i64 5, .int .i64 129] 3)).drewN j2) = w14 at *
      go_wp2_with fail
      refine (All_e hs14 (HT.out.keeps K14 hpos (by simp)) [0] (by decide +kernel)).mono ?_
      rintro e w15 ⟨v15, rfl, hv15, k15⟩
      have K15 := K14.trans k15
      have hs15 := hs14.keep0 k15
      have hu15 := hu14.keep0 k15
      clear hs14 hu14 K14 k15
      have hl15 := hv15.sl (by decide)
      go_wp2_with fail
      refine (Equal_e (hl15.keeps ((Keeps.refl [] w15).alloc _) (by simp)) (SlI.lit (xs := [0]) (Blk.new w15 3 #[.int .i64 0]) rfl (by decide)) rfl).mono ?_
      rintro e w' ⟨rfl, j3, rfl⟩
      have k16 : Keeps [] w15 ((w15.alloc (.cells #[.int .i64 0] 3)).drewN j3) := ((Keeps.refl [] w15).alloc _).drewN j3
      have K16 := K15.trans k16
      have hs16 := hs15.keep0 k16
      have hu16 := hu15.keep0 k16
      clear hs15 hu15 K15 hv15 hl15 k16
      generalize ((w15.alloc (.cells #[.int .i64 0] 3)).drewN j3) = w16 at *
      go_wp2_with fail
      refine (Union_other hs16 hu16 (by decide)).mono ?_
      rintro e w17 ⟨rfl, k17⟩
      go_wp2_with fail
      go_ret
      exact ⟨rfl, K16.trans k17⟩
end Go.Proofs.YtcdnflffpeijfaaDoor
