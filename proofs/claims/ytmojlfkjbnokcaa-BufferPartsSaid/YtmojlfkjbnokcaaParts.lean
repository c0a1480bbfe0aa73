/- BufferParts: for every input the call returns true, and nothing that was there has changed. No condition. -/
import Derived.Test.YtmojlfkjbnokcaaMade
import Derived.Test.YtmojlfkjbnokcaaWorks
import Derived.Test.YtmojlfkjbnokcaaKit2
import Derived.OpenShut
namespace Go.Proofs.Ytmojlfkjbnokcaa
open Go.RowKit
set_option linter.unusedVariables false

set_option maxRecDepth 100000 in
set_option maxHeartbeats 8000000 in
theorem parts_nil (a c : Nat) (ha : a ≤ 255) (hc' : c ≤ 255) (w : World) (a0 : Option Addr) (cap : Nat) : Calls Try.prog 7 #[.slice a0 0 cap, .int .u8 a, .int .u8 c] w fun e w' => e = .returned (.bool true) ∧ Below w.heap.size w w' := by
  obtain ⟨q, hq⟩ : ∃ q : Nat, q ≤ 0 := ⟨0, Nat.le_refl _⟩
  have HA := Lib.hid ha
  have HC' := Lib.hid hc'
  go_enter Try.func7, Try.ntmps7
  go_wp2_with fail
  refine (new_ok (sz := 64) (by omega) (by omega) _).mono ?_
  rintro e w1 ⟨rfl, hb, hk, hz⟩
  obtain ⟨b, hbq⟩ : ∃ b, w.heap.size = b := ⟨_, rfl⟩
  rw [hbq] at hb ⊢
  have hbw : w.heap.size ≤ b := by omega
  clear hz
  have HBQ := Lib.hid hbq
  clear hbq
  go_wp2_with fail
  go_loopw [38] (fun i wr => ∃ (k : Nat) (L : List Int), i = .int .i64 k ∧ k ≤ q ∧ L.length = k ∧ IsBuf wr b 64 L true ∧ Keeps [] w wr) (fun i _ => q - (intOf i).toNat)
  case atStart => exact ⟨0, [], rfl, Nat.zero_le _, rfl, hb, hk⟩
  case round =>
    obtain ⟨k, L, rfl, hkq, hL, hB, hK⟩ := hrel
    clear hb hk
    by_cases hlt : k < q
    · exact absurd hlt (by omega)
    · clear HA HC'
      have hLq : L.length = q := by omega
      have HLQ := Lib.hid hLq
      clear hL hLq
      go_wp2_with fail
      refine (copy_ok hB).mono ?_
      rintro e w2 ⟨rfl, hO, hk2, hs2⟩
      obtain ⟨o, hoq⟩ : ∃ o, wr.heap.size = o := ⟨_, rfl⟩
      rw [hoq] at hO hs2 ⊢
      have hbo : b < o := by have := hB.lt; omega
      have hB2 := hB.keeps hk2 (by simp)
      have hK2 := hK.trans hk2
      clear hoq hB hK hk2
      obtain ⟨X, hX⟩ : ∃ X, L.take a = X := ⟨_, rfl⟩
      obtain ⟨Y, hY⟩ : ∃ Y, (L.drop a).take c = Y := ⟨_, rfl⟩
      obtain ⟨Z, hZ⟩ : ∃ Z, L.take (a + c) = Z := ⟨_, rfl⟩
      obtain ⟨D, hD⟩ : ∃ D, (L.drop a).drop c = D := ⟨_, rfl⟩
      have HXYZ := Lib.hid (show X ++ Y = Z by rw [← hX, ← hY, ← hZ, List.take_add])
      have hD2 : L.drop (a + c) = D := by rw [← hD, List.drop_drop]
      have hZl : Z.length = min (a + c) q := by rw [← hZ, List.length_take, HLQ.out]
      have hxl : X.length ≤ 64 := by rw [← hX, List.length_take]; have := HLQ.out; omega
      have hyl : Y.length ≤ 64 := by rw [← hY, List.length_take, List.length_drop]; have := HLQ.out; omega
      have HX := Lib.hid hX
      have HY := Lib.hid hY
      have HZ := Lib.hid hZ
      have HD := Lib.hid hD
      have HD2 := Lib.hid hD2
      have HZL := Lib.hid hZl
      clear hX hY hZ hD hD2 hZl
      go_wp2_with fail
      refine (drain_ok hB2 a (by omega)).mono ?_
      rintro e w3 ⟨vx, rfl, hx, hB3, hk3⟩
      rw [HX.out] at hx
      have hO3 := hO.keeps hk3 (by simp; omega)
      have hK3 := hK2.step hk3 (by simp; omega)
      have hx3 := hx.base (B' := o + 1) (by omega)
      have hs3 := hk3.size
      obtain ⟨a1, c1, rfl⟩ := hx3.shape
      clear hB2 hO hK2 hk3 hx
      go_wp2_with fail
      refine (drain_ok hB3 0 (by omega)).mono ?_
      rintro e w4 ⟨vn, rfl, hn, hB4, hk4⟩
      obtain ⟨a2, c2, rfl⟩ := hn.shape
      have hO4 := hO3.keeps hk4 (by simp; omega)
      have hK4 := hK3.step hk4 (by simp; omega)
      have hx4 := hx3.keeps hk4 (fun y hy => by have := hx3.from_ y hy; simp; omega)
      have hs4 := hk4.size
      rw [List.take_zero, List.length_nil]
      rw [List.drop_zero] at hB4
      clear hB3 hO3 hK3 hk4 hx3 hn
      go_wp2_with fail
      refine (drain_ok hB4 c (by omega)).mono ?_
      rintro e w5 ⟨vy, rfl, hy, hB5, hk5⟩
      rw [HY.out] at hy
      rw [HD.out] at hB5
      have hO5 := hO4.keeps hk5 (by simp; omega)
      have hK5 := hK4.step hk5 (by simp; omega)
      have hx5 := hx4.keeps hk5 (fun y hy => by have := hx4.from_ y hy; simp; omega)
      have hy5 := hy.base (B' := o + 1) (by omega)
      have hs5 := hk5.size
      obtain ⟨a3, c3, rfl⟩ := hy5.shape
      clear hB4 hO4 hK4 hk5 hx4 hy
      go_wp2_with fail
      have hdr := drain_ok hO5 (a + c) (by omega)
      rw [Int.natCast_add] at hdr
      refine hdr.mono ?_
      clear hdr
      rintro e w6 ⟨vz, rfl, hz, hO6, hk6⟩
      rw [HZ.out] at hz
      rw [HD2.out] at hO6
      have hB6 := hB5.keeps hk6 (by simp; omega)
      have hK6 := hK5.step hk6 (by simp; omega)
      have hx6 := hx5.keeps hk6 (fun y hy => by have := hx5.from_ y hy; simp; omega)
      have hy6 := hy5.keeps hk6 (fun y hy => by have := hy5.from_ y hy; simp; omega)
      have HNE := Lib.hid (fun y (hy : (Value.slice a1 X.length c1).ownBlock = some y) => (hx5.lt y hy).2)
      have hs6 := hk6.size
      obtain ⟨m, hm⟩ : ∃ m, Z.length = m := ⟨_, rfl⟩
      have hsz := hz.shape
      rw [hm] at hsz
      obtain ⟨a4, c4, rfl⟩ := hsz
      have hbs : o + 1 ≤ w6.heap.size := by omega
      have hZlt : Z.length ≤ 64 := by rw [HZL.out]; have := HLQ.out; omega
      have HM := Lib.hid hm
      have hmq : m = min (a + c) q := by rw [← hm]; exact HZL.out
      clear hm
      have hr : ((m : Int) = (a : Int) + c ∧ (a : Int) + c < 0) ∨ ((m : Int) = 0 ∧ 0 ≤ (a : Int) + c) := by omega
      clear hmq
      rcases hr with ⟨hac, hrq⟩ | ⟨hac, hrq⟩
      all_goals
        go_wp2_with (at_builtin; refine wpList_append_slG (by simp [Region.wanted, yielded]) (.tmp 109) (.tmp 110) 26 rfl (o + 1) Try.underlying26 Try.info3 rfl rfl hx6 (hy6.sl (by unfold maxLen; omega)) (by omega) hbs ?_; intro v3 w7 hown3 hg3 hat3)
        have G3 : Grew (o + 1) _ v3 (X ++ Y) w6 w7 := ⟨hown3, hg3, hat3⟩
        have hz3 := (G3.other hz (fun y hy hy' => by have h1 := HNE.out y hy'; have h2 := hz.from_ y hy; omega)).1
        have hB7 := hB6.keeps (Keeps.of_grown hg3) (own_free hx6.from_ (by omega))
        have hO7 := hO6.keeps (Keeps.of_grown hg3) (own_free hx6.from_ (by omega))
        have hK7 := G3.keeps hx6.from_ hK6 (by omega)
        refine (equal_any (hown3.sl (by rw [HXYZ.out]; unfold maxLen; omega)) (hz3.sl (by unfold maxLen; omega))).mono ?_
        rintro e w' ⟨rfl, j, rfl⟩
        rw [decide_eq_true HXYZ.out]
        have hB8 := hB7.drewN j
        have hO8 := hO7.drewN j
        have hK8 := hK7.drewN j
        generalize w7.drewN j = w8 at *
        go_wp2_with fail
        refine (len_any hB8).mono ?_
        rintro e w' ⟨rfl, rfl⟩
        go_wp2_with fail
        refine (len_any hO8).mono ?_
        rintro e w' ⟨rfl, rfl⟩
        go_wp2_with fail
        refine (works_ok _).mono ?_
        rintro e w9 ⟨rfl, hk9⟩
        have hK9 := hK8.step (T := []) (Keeps.of_below hk9) (by simp)
        go_wp2_with fail
        go_ret
        exact ⟨rfl, hK9.below⟩

set_option maxRecDepth 100000 in
set_option maxHeartbeats 8000000 in
theorem parts_small (a c : Nat) (ha : a ≤ 255) (hc' : c ≤ 255) (w : World) (g off len cap : Nat) (zs : List Int) (hwf : ∀ z ∈ zs, (Lit.int .u8 z).wf = true) (hml : zs.length = len) (hlc : len ≤ cap) (hcm : cap ≤ 9223372036854775807) (hg : g < w.heap.size) (hlo : len ≤ 64) (hc : ∀ i, i < len → w.cell? ⟨g, off + i, none⟩ = some (.int .u8 (zs.getD i 0))) : Calls Try.prog 7 #[.slice (some ⟨g, off, none⟩) len cap, .int .u8 a, .int .u8 c] w fun e w' => e = .returned (.bool true) ∧ Below w.heap.size w w' := by
  obtain ⟨q, hq, hq'⟩ : ∃ q : Nat, q ≤ len ∧ len ≤ q := ⟨len, Nat.le_refl _, Nat.le_refl _⟩
  have HWF := Lib.hid hwf
  have HC := Lib.hid hc
  have HML := Lib.hid hml
  clear hwf hc hml
  have HA := Lib.hid ha
  have HC' := Lib.hid hc'
  go_enter Try.func7, Try.ntmps7
  go_wp2_with fail
  refine (new_ok (sz := 64) (by omega) (by omega) _).mono ?_
  rintro e w1 ⟨rfl, hb, hk, hz⟩
  obtain ⟨b, hbq⟩ : ∃ b, w.heap.size = b := ⟨_, rfl⟩
  rw [hbq] at hb ⊢
  have hbw : w.heap.size ≤ b := by omega
  clear hz
  have HBQ := Lib.hid hbq
  clear hbq
  go_wp2_with fail
  go_loopw [38] (fun i wr => ∃ (k : Nat) (L : List Int), i = .int .i64 k ∧ k ≤ q ∧ L.length = k ∧ IsBuf wr b 64 L true ∧ Keeps [] w wr) (fun i _ => q - (intOf i).toNat)
  case atStart => exact ⟨0, [], rfl, Nat.zero_le _, rfl, hb, hk⟩
  case round =>
    obtain ⟨k, L, rfl, hkq, hL, hB, hK⟩ := hrel
    clear hb hk
    by_cases hlt : k < q
    · have hcell := HC.out k (by omega)
      have hw2 := HWF.out _ (getD_mem zs 0 k (by have := HML.out; omega))
      have x0 : wr.cell? ⟨g, off + k, none⟩ = some (.int .u8 (zs.getD k 0)) := (hK.cell (p := ⟨g, off + k, none⟩) hg (by simp)).trans hcell
      have hb1 := bounds_u8 hw2
      clear hcell hw2
      generalize zs.getD k 0 = d at *
      go_wp2_with fail
      refine (note_ok hB d (by omega) (by omega) (by omega)).mono ?_
      rintro e w2 ⟨rfl, hB2, hk2⟩
      go_wp2_with fail
      go_roundw
      case rel => exact ⟨k + 1, L ++ [d], by go_num, by omega, by simp [hL], hB2, hK.step hk2 (by simp; omega)⟩
      case measure => simp [intOf]; omega
    · clear HA HC'
      have hLq : L.length = q := by omega
      have HLQ := Lib.hid hLq
      clear hL hLq
      go_wp2_with fail
      refine (copy_ok hB).mono ?_
      rintro e w2 ⟨rfl, hO, hk2, hs2⟩
      obtain ⟨o, hoq⟩ : ∃ o, wr.heap.size = o := ⟨_, rfl⟩
      rw [hoq] at hO hs2 ⊢
      have hbo : b < o := by have := hB.lt; omega
      have hB2 := hB.keeps hk2 (by simp)
      have hK2 := hK.trans hk2
      clear hoq hB hK hk2
      obtain ⟨X, hX⟩ : ∃ X, L.take a = X := ⟨_, rfl⟩
      obtain ⟨Y, hY⟩ : ∃ Y, (L.drop a).take c = Y := ⟨_, rfl⟩
      obtain ⟨Z, hZ⟩ : ∃ Z, L.take (a + c) = Z := ⟨_, rfl⟩
      obtain ⟨D, hD⟩ : ∃ D, (L.drop a).drop c = D := ⟨_, rfl⟩
      have HXYZ := Lib.hid (show X ++ Y = Z by rw [← hX, ← hY, ← hZ, List.take_add])
      have hD2 : L.drop (a + c) = D := by rw [← hD, List.drop_drop]
      have hZl : Z.length = min (a + c) q := by rw [← hZ, List.length_take, HLQ.out]
      have hxl : X.length ≤ 64 := by rw [← hX, List.length_take]; have := HLQ.out; omega
      have hyl : Y.length ≤ 64 := by rw [← hY, List.length_take, List.length_drop]; have := HLQ.out; omega
      have HX := Lib.hid hX
      have HY := Lib.hid hY
      have HZ := Lib.hid hZ
      have HD := Lib.hid hD
      have HD2 := Lib.hid hD2
      have HZL := Lib.hid hZl
      clear hX hY hZ hD hD2 hZl
      go_wp2_with fail
      refine (drain_ok hB2 a (by omega)).mono ?_
      rintro e w3 ⟨vx, rfl, hx, hB3, hk3⟩
      rw [HX.out] at hx
      have hO3 := hO.keeps hk3 (by simp; omega)
      have hK3 := hK2.step hk3 (by simp; omega)
      have hx3 := hx.base (B' := o + 1) (by omega)
      have hs3 := hk3.size
      obtain ⟨a1, c1, rfl⟩ := hx3.shape
      clear hB2 hO hK2 hk3 hx
      go_wp2_with fail
      refine (drain_ok hB3 0 (by omega)).mono ?_
      rintro e w4 ⟨vn, rfl, hn, hB4, hk4⟩
      obtain ⟨a2, c2, rfl⟩ := hn.shape
      have hO4 := hO3.keeps hk4 (by simp; omega)
      have hK4 := hK3.step hk4 (by simp; omega)
      have hx4 := hx3.keeps hk4 (fun y hy => by have := hx3.from_ y hy; simp; omega)
      have hs4 := hk4.size
      rw [List.take_zero, List.length_nil]
      rw [List.drop_zero] at hB4
      clear hB3 hO3 hK3 hk4 hx3 hn
      go_wp2_with fail
      refine (drain_ok hB4 c (by omega)).mono ?_
      rintro e w5 ⟨vy, rfl, hy, hB5, hk5⟩
      rw [HY.out] at hy
      rw [HD.out] at hB5
      have hO5 := hO4.keeps hk5 (by simp; omega)
      have hK5 := hK4.step hk5 (by simp; omega)
      have hx5 := hx4.keeps hk5 (fun y hy => by have := hx4.from_ y hy; simp; omega)
      have hy5 := hy.base (B' := o + 1) (by omega)
      have hs5 := hk5.size
      obtain ⟨a3, c3, rfl⟩ := hy5.shape
      clear hB4 hO4 hK4 hk5 hx4 hy
      go_wp2_with fail
      have hdr := drain_ok hO5 (a + c) (by omega)
      rw [Int.natCast_add] at hdr
      refine hdr.mono ?_
      clear hdr
      rintro e w6 ⟨vz, rfl, hz, hO6, hk6⟩
      rw [HZ.out] at hz
      rw [HD2.out] at hO6
      have hB6 := hB5.keeps hk6 (by simp; omega)
      have hK6 := hK5.step hk6 (by simp; omega)
      have hx6 := hx5.keeps hk6 (fun y hy => by have := hx5.from_ y hy; simp; omega)
      have hy6 := hy5.keeps hk6 (fun y hy => by have := hy5.from_ y hy; simp; omega)
      have HNE := Lib.hid (fun y (hy : (Value.slice a1 X.length c1).ownBlock = some y) => (hx5.lt y hy).2)
      have hs6 := hk6.size
      obtain ⟨m, hm⟩ : ∃ m, Z.length = m := ⟨_, rfl⟩
      have hsz := hz.shape
      rw [hm] at hsz
      obtain ⟨a4, c4, rfl⟩ := hsz
      have hbs : o + 1 ≤ w6.heap.size := by omega
      have hZlt : Z.length ≤ 64 := by rw [HZL.out]; have := HLQ.out; omega
      have HM := Lib.hid hm
      have hmq : m = min (a + c) q := by rw [← hm]; exact HZL.out
      clear hm
      have hr : ((m : Int) = (a : Int) + c ∧ (a : Int) + c < len) ∨ ((m : Int) = len ∧ len ≤ (a : Int) + c) := by omega
      clear hmq
      rcases hr with ⟨hac, hrq⟩ | ⟨hac, hrq⟩
      all_goals
        go_wp2_with (at_builtin; refine wpList_append_slG (by simp [Region.wanted, yielded]) (.tmp 109) (.tmp 110) 26 rfl (o + 1) Try.underlying26 Try.info3 rfl rfl hx6 (hy6.sl (by unfold maxLen; omega)) (by omega) hbs ?_; intro v3 w7 hown3 hg3 hat3)
        have G3 : Grew (o + 1) _ v3 (X ++ Y) w6 w7 := ⟨hown3, hg3, hat3⟩
        have hz3 := (G3.other hz (fun y hy hy' => by have h1 := HNE.out y hy'; have h2 := hz.from_ y hy; omega)).1
        have hB7 := hB6.keeps (Keeps.of_grown hg3) (own_free hx6.from_ (by omega))
        have hO7 := hO6.keeps (Keeps.of_grown hg3) (own_free hx6.from_ (by omega))
        have hK7 := G3.keeps hx6.from_ hK6 (by omega)
        refine (equal_any (hown3.sl (by rw [HXYZ.out]; unfold maxLen; omega)) (hz3.sl (by unfold maxLen; omega))).mono ?_
        rintro e w' ⟨rfl, j, rfl⟩
        rw [decide_eq_true HXYZ.out]
        have hB8 := hB7.drewN j
        have hO8 := hO7.drewN j
        have hK8 := hK7.drewN j
        generalize w7.drewN j = w8 at *
        go_wp2_with fail
        refine (len_any hB8).mono ?_
        rintro e w' ⟨rfl, rfl⟩
        go_wp2_with fail
        refine (len_any hO8).mono ?_
        rintro e w' ⟨rfl, rfl⟩
        go_wp2_with fail
        refine (works_ok _).mono ?_
        rintro e w9 ⟨rfl, hk9⟩
        have hK9 := hK8.step (T := []) (Keeps.of_below hk9) (by simp)
        go_wp2_with fail
        go_ret
        exact ⟨rfl, hK9.below⟩

set_option maxRecDepth 100000 in
set_option maxHeartbeats 8000000 in
theorem parts_big (a c : Nat) (ha : a ≤ 255) (hc' : c ≤ 255) (w : World) (g off len cap : Nat) (zs : List Int) (hwf : ∀ z ∈ zs, (Lit.int .u8 z).wf = true) (hml : zs.length = len) (hlc : len ≤ cap) (hcm : cap ≤ 9223372036854775807) (hg : g < w.heap.size) (hlo : 64 < len) (hc : ∀ i, i < len → w.cell? ⟨g, off + i, none⟩ = some (.int .u8 (zs.getD i 0))) : Calls Try.prog 7 #[.slice (some ⟨g, off, none⟩) len cap, .int .u8 a, .int .u8 c] w fun e w' => e = .returned (.bool true) ∧ Below w.heap.size w w' := by
  obtain ⟨q, hq, hq'⟩ : ∃ q : Nat, q ≤ 64 ∧ 64 ≤ q := ⟨64, Nat.le_refl _, Nat.le_refl _⟩
  have HWF := Lib.hid hwf
  have HC := Lib.hid hc
  have HML := Lib.hid hml
  clear hwf hc hml
  have HA := Lib.hid ha
  have HC' := Lib.hid hc'
  go_enter Try.func7, Try.ntmps7
  go_wp2_with fail
  refine (new_ok (sz := 64) (by omega) (by omega) _).mono ?_
  rintro e w1 ⟨rfl, hb, hk, hz⟩
  obtain ⟨b, hbq⟩ : ∃ b, w.heap.size = b := ⟨_, rfl⟩
  rw [hbq] at hb ⊢
  have hbw : w.heap.size ≤ b := by omega
  clear hz
  have HBQ := Lib.hid hbq
  clear hbq
  go_wp2_with fail
  go_loopw [38] (fun i wr => ∃ (k : Nat) (L : List Int), i = .int .i64 k ∧ k ≤ q ∧ L.length = k ∧ IsBuf wr b 64 L true ∧ Keeps [] w wr) (fun i _ => q - (intOf i).toNat)
  case atStart => exact ⟨0, [], rfl, Nat.zero_le _, rfl, hb, hk⟩
  case round =>
    obtain ⟨k, L, rfl, hkq, hL, hB, hK⟩ := hrel
    clear hb hk
    by_cases hlt : k < q
    · have hcell := HC.out k (by omega)
      have hw2 := HWF.out _ (getD_mem zs 0 k (by have := HML.out; omega))
      have x0 : wr.cell? ⟨g, off + k, none⟩ = some (.int .u8 (zs.getD k 0)) := (hK.cell (p := ⟨g, off + k, none⟩) hg (by simp)).trans hcell
      have hb1 := bounds_u8 hw2
      clear hcell hw2
      generalize zs.getD k 0 = d at *
      go_wp2_with fail
      refine (note_ok hB d (by omega) (by omega) (by omega)).mono ?_
      rintro e w2 ⟨rfl, hB2, hk2⟩
      go_wp2_with fail
      go_roundw
      case rel => exact ⟨k + 1, L ++ [d], by go_num, by omega, by simp [hL], hB2, hK.step hk2 (by simp; omega)⟩
      case measure => simp [intOf]; omega
    · clear HA HC'
      have hLq : L.length = q := by omega
      have HLQ := Lib.hid hLq
      clear hL hLq
      go_wp2_with fail
      refine (copy_ok hB).mono ?_
      rintro e w2 ⟨rfl, hO, hk2, hs2⟩
      obtain ⟨o, hoq⟩ : ∃ o, wr.heap.size = o := ⟨_, rfl⟩
      rw [hoq] at hO hs2 ⊢
      have hbo : b < o := by have := hB.lt; omega
      have hB2 := hB.keeps hk2 (by simp)
      have hK2 := hK.trans hk2
      clear hoq hB hK hk2
      obtain ⟨X, hX⟩ : ∃ X, L.take a = X := ⟨_, rfl⟩
      obtain ⟨Y, hY⟩ : ∃ Y, (L.drop a).take c = Y := ⟨_, rfl⟩
      obtain ⟨Z, hZ⟩ : ∃ Z, L.take (a + c) = Z := ⟨_, rfl⟩
      obtain ⟨D, hD⟩ : ∃ D, (L.drop a).drop c = D := ⟨_, rfl⟩
      have HXYZ := Lib.hid (show X ++ Y = Z by rw [← hX, ← hY, ← hZ, List.take_add])
      have hD2 : L.drop (a + c) = D := by rw [← hD, List.drop_drop]
      have hZl : Z.length = min (a + c) q := by rw [← hZ, List.length_take, HLQ.out]
      have hxl : X.length ≤ 64 := by rw [← hX, List.length_take]; have := HLQ.out; omega
      have hyl : Y.length ≤ 64 := by rw [← hY, List.length_take, List.length_drop]; have := HLQ.out; omega
      have HX := Lib.hid hX
      have HY := Lib.hid hY
      have HZ := Lib.hid hZ
      have HD := Lib.hid hD
      have HD2 := Lib.hid hD2
      have HZL := Lib.hid hZl
      clear hX hY hZ hD hD2 hZl
      go_wp2_with fail
      refine (drain_ok hB2 a (by omega)).mono ?_
      rintro e w3 ⟨vx, rfl, hx, hB3, hk3⟩
      rw [HX.out] at hx
      have hO3 := hO.keeps hk3 (by simp; omega)
      have hK3 := hK2.step hk3 (by simp; omega)
      have hx3 := hx.base (B' := o + 1) (by omega)
      have hs3 := hk3.size
      obtain ⟨a1, c1, rfl⟩ := hx3.shape
      clear hB2 hO hK2 hk3 hx
      go_wp2_with fail
      refine (drain_ok hB3 0 (by omega)).mono ?_
      rintro e w4 ⟨vn, rfl, hn, hB4, hk4⟩
      obtain ⟨a2, c2, rfl⟩ := hn.shape
      have hO4 := hO3.keeps hk4 (by simp; omega)
      have hK4 := hK3.step hk4 (by simp; omega)
      have hx4 := hx3.keeps hk4 (fun y hy => by have := hx3.from_ y hy; simp; omega)
      have hs4 := hk4.size
      rw [List.take_zero, List.length_nil]
      rw [List.drop_zero] at hB4
      clear hB3 hO3 hK3 hk4 hx3 hn
      go_wp2_with fail
      refine (drain_ok hB4 c (by omega)).mono ?_
      rintro e w5 ⟨vy, rfl, hy, hB5, hk5⟩
      rw [HY.out] at hy
      rw [HD.out] at hB5
      have hO5 := hO4.keeps hk5 (by simp; omega)
      have hK5 := hK4.step hk5 (by simp; omega)
      have hx5 := hx4.keeps hk5 (fun y hy => by have := hx4.from_ y hy; simp; omega)
      have hy5 := hy.base (B' := o + 1) (by omega)
      have hs5 := hk5.size
      obtain ⟨a3, c3, rfl⟩ := hy5.shape
      clear hB4 hO4 hK4 hk5 hx4 hy
      go_wp2_with fail
      have hdr := drain_ok hO5 (a + c) (by omega)
      rw [Int.natCast_add] at hdr
      refine hdr.mono ?_
      clear hdr
      rintro e w6 ⟨vz, rfl, hz, hO6, hk6⟩
      rw [HZ.out] at hz
      rw [HD2.out] at hO6
      have hB6 := hB5.keeps hk6 (by simp; omega)
      have hK6 := hK5.step hk6 (by simp; omega)
      have hx6 := hx5.keeps hk6 (fun y hy => by have := hx5.from_ y hy; simp; omega)
      have hy6 := hy5.keeps hk6 (fun y hy => by have := hy5.from_ y hy; simp; omega)
      have HNE := Lib.hid (fun y (hy : (Value.slice a1 X.length c1).ownBlock = some y) => (hx5.lt y hy).2)
      have hs6 := hk6.size
      obtain ⟨m, hm⟩ : ∃ m, Z.length = m := ⟨_, rfl⟩
      have hsz := hz.shape
      rw [hm] at hsz
      obtain ⟨a4, c4, rfl⟩ := hsz
      have hbs : o + 1 ≤ w6.heap.size := by omega
      have hZlt : Z.length ≤ 64 := by rw [HZL.out]; have := HLQ.out; omega
      have HM := Lib.hid hm
      have hmq : m = min (a + c) q := by rw [← hm]; exact HZL.out
      clear hm
      have hr : ((m : Int) = (a : Int) + c ∧ (a : Int) + c < 64) ∨ ((m : Int) = 64 ∧ 64 ≤ (a : Int) + c) := by omega
      clear hmq
      rcases hr with ⟨hac, hrq⟩ | ⟨hac, hrq⟩
      all_goals
        go_wp2_with (at_builtin; refine wpList_append_slG (by simp [Region.wanted, yielded]) (.tmp 109) (.tmp 110) 26 rfl (o + 1) Try.underlying26 Try.info3 rfl rfl hx6 (hy6.sl (by unfold maxLen; omega)) (by omega) hbs ?_; intro v3 w7 hown3 hg3 hat3)
        have G3 : Grew (o + 1) _ v3 (X ++ Y) w6 w7 := ⟨hown3, hg3, hat3⟩
        have hz3 := (G3.other hz (fun y hy hy' => by have h1 := HNE.out y hy'; have h2 := hz.from_ y hy; omega)).1
        have hB7 := hB6.keeps (Keeps.of_grown hg3) (own_free hx6.from_ (by omega))
        have hO7 := hO6.keeps (Keeps.of_grown hg3) (own_free hx6.from_ (by omega))
        have hK7 := G3.keeps hx6.from_ hK6 (by omega)
        refine (equal_any (hown3.sl (by rw [HXYZ.out]; unfold maxLen; omega)) (hz3.sl (by unfold maxLen; omega))).mono ?_
        rintro e w' ⟨rfl, j, rfl⟩
        rw [decide_eq_true HXYZ.out]
        have hB8 := hB7.drewN j
        have hO8 := hO7.drewN j
        have hK8 := hK7.drewN j
        generalize w7.drewN j = w8 at *
        go_wp2_with fail
        refine (len_any hB8).mono ?_
        rintro e w' ⟨rfl, rfl⟩
        go_wp2_with fail
        refine (len_any hO8).mono ?_
        rintro e w' ⟨rfl, rfl⟩
        go_wp2_with fail
        refine (works_ok _).mono ?_
        rintro e w9 ⟨rfl, hk9⟩
        have hK9 := hK8.step (T := []) (Keeps.of_below hk9) (by simp)
        go_wp2_with fail
        go_ret
        exact ⟨rfl, hK9.below⟩

theorem parts_walk (a c : Nat) (ha : a ≤ 255) (hc : c ≤ 255) (v : Value) (zs : List Int) (w : World) (hv : ArgI .u8 w v zs) : Calls Try.prog 7 #[v, .int .u8 a, .int .u8 c] w fun e w' => e = .returned (.bool true) ∧ Below w.heap.size w w' := by
  obtain ⟨hwf, hv⟩ := hv
  rcases hv with ⟨rfl, a0, cap, rfl⟩ | ⟨g, off, cap, rfl, hlc, hcm, hg, h0, hcell⟩
  · exact parts_nil a c ha hc w a0 cap
  · unfold maxLen at hcm
    rcases Nat.lt_or_ge 64 zs.length with h | h
    · exact parts_big a c ha hc w g off zs.length cap zs hwf rfl hlc hcm hg h (fun i hi => hcell i hi)
    · exact parts_small a c ha hc w g off zs.length cap zs hwf rfl hlc hcm hg h (fun i hi => hcell i hi)
end Go.Proofs.Ytmojlfkjbnokcaa
