/- BufferKeeps: for every input the call returns true, and nothing that was there has changed. No condition. -/
import Derived.Test.YtmojlfkjbnokcaaMade
import Derived.Test.YtmojlfkjbnokcaaWorks
import Derived.Test.YtmojlfkjbnokcaaPairs
import Derived.OpenShut
namespace Go.Proofs.Ytmojlfkjbnokcaa
open Go.RowKit
set_option linter.unusedVariables false

set_option maxRecDepth 100000 in
set_option maxHeartbeats 8000000 in
theorem keeps_nil (s : Nat) (hs : s ≤ 255) (a : Option Addr) (cap : Nat) (w : World) : Calls Try.prog 3 #[.int .u8 s, .slice a 0 cap] w fun e w' => e = .returned (.bool true) ∧ Below w.heap.size w w' := by
  obtain ⟨q, hq⟩ : ∃ q : Nat, q ≤ 0 := ⟨0, Nat.le_refl _⟩
  obtain ⟨n, hn⟩ : ∃ n, 1 + s % 64 = n := ⟨_, rfl⟩
  have hn0 : 1 ≤ n := by omega
  have hn1 : n ≤ 64 := by omega
  have hmade := made_size s hs w
  rw [hn] at hmade
  have HM := Lib.hid hmade
  clear hmade hn
  go_enter Try.func3, Try.ntmps3
  go_wp2_with fail
  refine HM.out.mono ?_
  rintro e w1 ⟨rfl, hb, hk, hz⟩
  clear HM
  obtain ⟨b, hbq⟩ : ∃ b, w.heap.size = b := ⟨_, rfl⟩
  rw [hbq] at hb ⊢
  have hbw : w.heap.size ≤ b := by omega
  clear hz
  have HBQ := Lib.hid hbq
  clear hbq
  go_wp2_with fail
  go_loopw [8, 9, 10, 34] (fun v1 v2 o i wr => ∃ (k : Nat) (N D L : List Int) (wh : Bool), i = .int .i64 k ∧ k ≤ q ∧ o = .bool (!wh) ∧ OwnI wr (b + 1) v1 N ∧ OwnI wr (b + 1) v2 D ∧ (∀ x, v1.ownBlock = some x → v2.ownBlock ≠ some x) ∧ N = D ++ L ∧ N.length ≤ k ∧ IsBuf wr b n L wh ∧ Keeps [] w wr) (fun _ _ _ i _ => q - (intOf i).toNat)
  case atStart => exact ⟨0, [], [], [], true, rfl, Nat.zero_le _, rfl, OwnI.nil _ _, OwnI.nil _ _, (fun x hx => by cases hx), rfl, Nat.le_refl _, hb, hk⟩
  case round =>
    obtain ⟨k, N, D, L, wh, rfl, hkq, rfl, hN, hD, hne, hNL, hNk, hB, hK⟩ := hrel
    have HNE := Lib.hid hne
    have HNL := Lib.hid hNL
    have hnl1 : N.length ≤ D.length + L.length := by rw [hNL, List.length_append]; omega
    have hnl2 : D.length + L.length ≤ N.length := by rw [hNL, List.length_append]; omega
    have hle := hB.le
    obtain ⟨a1, c1, rfl⟩ := hN.shape
    obtain ⟨a2, c2, rfl⟩ := hD.shape
    clear hne hNL hb hk
    by_cases hlt : k < q
    · exact absurd hlt (by omega)
    · go_wp2_with fail
      refine (drain_ok hB n (by omega)).mono ?_
      rintro e w2 ⟨vx, rfl, hx, hB2, hkd⟩
      have hx' : OwnI w2 wr.heap.size vx L := by rw [List.take_of_length_le hle.2.2] at hx; exact hx
      have hB2' : IsBuf w2 b n [] wh := by rw [List.drop_eq_nil_of_le hle.2.2] at hB2; exact hB2
      have hN2 := hN.keeps hkd (fun y hy => by have := hN.from_ y hy; simp; omega)
      have hD2 := hD.keeps hkd (fun y hy => by have := hD.from_ y hy; simp; omega)
      have hK2 := hK.step hkd (by simp; omega)
      have hs2 : wr.heap.size ≤ w2.heap.size := hkd.size
      have hbs : b + 1 ≤ w2.heap.size := by have := hB2'.lt; omega
      obtain ⟨a3, c3, rfl⟩ := hx'.shape
      clear hx hB2 hkd hN hD hB hK
      go_wp2_with (at_builtin; refine wpList_append_slG (by simp [Region.wanted, yielded]) (.tmp 135) (.tmp 136) 26 rfl (b + 1) Try.underlying26 Try.info3 rfl rfl hD2 (hx'.sl (by unfold maxLen; omega)) (by omega) hbs ?_; intro v3 w3 hown3 hg3 hat3)
      have G3 : Grew (b + 1) _ v3 (D ++ L) w2 w3 := ⟨hown3, hg3, hat3⟩
      have hN3 := (G3.other hN2 HNE.out).1
      have hB3 := hB2'.keeps (Keeps.of_grown hg3) (own_free hD2.from_ (by omega))
      have hK3 := G3.keeps hD2.from_ hK2 (by omega)
      refine (equal_any (hown3.sl (by rw [← HNL.out]; unfold maxLen; omega)) (hN3.sl (by unfold maxLen; omega))).mono ?_
      rintro e w' ⟨rfl, j, rfl⟩
      rw [decide_eq_true HNL.out.symm]
      have hB4 := hB3.drewN j
      have hK4 := hK3.drewN j
      generalize w3.drewN j = w4 at *
      go_wp2_with fail
      refine (len_any hB4).mono ?_
      rintro e w' ⟨rfl, rfl⟩
      go_wp2_with fail
      refine (over_any hB4).mono ?_
      rintro e w' ⟨rfl, rfl⟩
      go_wp2_with fail
      refine (works_ok _).mono ?_
      rintro e w6 ⟨rfl, hk6⟩
      have hK6 := hK4.step (T := []) (Keeps.of_below hk6) (by simp)
      go_wp2_with fail
      go_ret
      exact ⟨rfl, hK6.below⟩

set_option maxRecDepth 100000 in
set_option maxHeartbeats 8000000 in
theorem keeps_small (s : Nat) (hs : s ≤ 255) (g off len cap : Nat) (ms : List (Int × Int)) (w : World) (hwf : ∀ m ∈ ms, (Lit.int .u8 m.1).wf = true ∧ (Lit.int .u8 m.2).wf = true) (hml : ms.length = len) (hlc : len ≤ cap) (hcm : cap ≤ 9223372036854775807) (hg : g < w.heap.size) (hlo : len ≤ 300)
    (hc : ∀ i, i < len → w.cell? ⟨g, off + i * 2, none⟩ = some (.int .u8 (ms.getD i (0, 0)).1) ∧ w.cell? ⟨g, off + i * 2 + 1, none⟩ = some (.int .u8 (ms.getD i (0, 0)).2)) :
    Calls Try.prog 3 #[.int .u8 s, .slice (some ⟨g, off, none⟩) len cap] w fun e w' => e = .returned (.bool true) ∧ Below w.heap.size w w' := by
  obtain ⟨q, hq, hq'⟩ : ∃ q : Nat, q ≤ len ∧ len ≤ q := ⟨len, Nat.le_refl _, Nat.le_refl _⟩
  have HWF := Lib.hid hwf
  have HC := Lib.hid hc
  have HML := Lib.hid hml
  clear hwf hc hml
  obtain ⟨n, hn⟩ : ∃ n, 1 + s % 64 = n := ⟨_, rfl⟩
  have hn0 : 1 ≤ n := by omega
  have hn1 : n ≤ 64 := by omega
  have hmade := made_size s hs w
  rw [hn] at hmade
  have HM := Lib.hid hmade
  clear hmade hn
  go_enter Try.func3, Try.ntmps3
  go_wp2_with fail
  refine HM.out.mono ?_
  rintro e w1 ⟨rfl, hb, hk, hz⟩
  clear HM
  obtain ⟨b, hbq⟩ : ∃ b, w.heap.size = b := ⟨_, rfl⟩
  rw [hbq] at hb ⊢
  have hbw : w.heap.size ≤ b := by omega
  clear hz
  have HBQ := Lib.hid hbq
  clear hbq
  go_wp2_with fail
  go_loopw [8, 9, 10, 34] (fun v1 v2 o i wr => ∃ (k : Nat) (N D L : List Int) (wh : Bool), i = .int .i64 k ∧ k ≤ q ∧ o = .bool (!wh) ∧ OwnI wr (b + 1) v1 N ∧ OwnI wr (b + 1) v2 D ∧ (∀ x, v1.ownBlock = some x → v2.ownBlock ≠ some x) ∧ N = D ++ L ∧ N.length ≤ k ∧ IsBuf wr b n L wh ∧ Keeps [] w wr) (fun _ _ _ i _ => q - (intOf i).toNat)
  case atStart => exact ⟨0, [], [], [], true, rfl, Nat.zero_le _, rfl, OwnI.nil _ _, OwnI.nil _ _, (fun x hx => by cases hx), rfl, Nat.le_refl _, hb, hk⟩
  case round =>
    obtain ⟨k, N, D, L, wh, rfl, hkq, rfl, hN, hD, hne, hNL, hNk, hB, hK⟩ := hrel
    have HNE := Lib.hid hne
    have HNL := Lib.hid hNL
    have hnl1 : N.length ≤ D.length + L.length := by rw [hNL, List.length_append]; omega
    have hnl2 : D.length + L.length ≤ N.length := by rw [hNL, List.length_append]; omega
    have hle := hB.le
    obtain ⟨a1, c1, rfl⟩ := hN.shape
    obtain ⟨a2, c2, rfl⟩ := hD.shape
    clear hne hNL hb hk
    by_cases hlt : k < q
    · have hcell := HC.out k (by omega)
      have hw2 := HWF.out _ (getD_mem ms (0, 0) k (by have := HML.out; omega))
      have x0 : wr.cell? ⟨g, off + k * 2, none⟩ = some (.int .u8 (ms.getD k (0, 0)).1) := (hK.cell (p := ⟨g, off + k * 2, none⟩) hg (by simp)).trans hcell.1
      have x1 : wr.cell? ⟨g, off + k * 2 + 1, none⟩ = some (.int .u8 (ms.getD k (0, 0)).2) := (hK.cell (p := ⟨g, off + k * 2 + 1, none⟩) hg (by simp)).trans hcell.2
      have hb1 := bounds_u8 hw2.1
      have hb2 := bounds_u8 hw2.2
      clear hcell hw2
      generalize (ms.getD k (0, 0)).1 = d at *
      generalize (ms.getD k (0, 0)).2 = x at *
      by_cases hd : d % 4 = 3
      · have hd1 : (d % 4 == 3) = true := by simp [hd]
        clear hd
        obtain ⟨z, hz⟩ : ∃ z : Nat, x % 16 = (z : Int) := ⟨(x % 16).toNat, by omega⟩
        have hz16 : z ≤ 15 := by omega
        have HZ := Lib.hid hz
        clear hz
        go_wp2_with fail
        rw [HZ.out]
        have bX := Blk.new wr 28 #[.int .u8 d, .int .u8 x]
        have hbX := hB.lt
        have hBv := hB.alloc (.cells #[.int .u8 d, .int .u8 x] 28)
        have hNv := hN.alloc (.cells #[.int .u8 d, .int .u8 x] 28)
        have hDv := hD.alloc (.cells #[.int .u8 d, .int .u8 x] 28)
        have hKv := hK.alloc (.cells #[.int .u8 d, .int .u8 x] 28)
        clear hB hN hD hK x0 x1
        generalize wr.heap.size = X at *
        generalize wr.alloc (.cells #[.int .u8 d, .int .u8 x] 28) = V at *
        clear wr
        refine (drain_ok hBv z (by omega)).mono ?_
        rintro e w2 ⟨vx, rfl, hx, hB2, hkd⟩
        have hN2 := hNv.keeps hkd (fun y hy => by have := hNv.from_ y hy; simp; omega)
        have hD2 := hDv.keeps hkd (fun y hy => by have := hDv.from_ y hy; simp; omega)
        have hK2 := hKv.step hkd (by simp; omega)
        have hs2 : V.heap.size ≤ w2.heap.size := hkd.size
        have hbs : b + 1 ≤ w2.heap.size := by have := hB2.lt; omega
        obtain ⟨a3, c3, rfl⟩ := hx.shape
        have ht1 : (L.take z).length ≤ z := by rw [List.length_take]; omega
        have ht2 : (L.take z).length ≤ L.length := by rw [List.length_take]; omega
        have ht3 : z ≤ (L.take z).length ∨ L.length ≤ (L.take z).length := by rw [List.length_take]; omega
        have HTD := Lib.hid (List.take_append_drop z L)
        have HTL := Lib.hid (List.length_drop (i := z) (l := L))
        generalize L.take z = T at *
        generalize L.drop z = L2 at *
        have hlen2 : T.length + L2.length ≤ L.length := by rw [← HTD.out, List.length_append]; omega
        have hlen3 : L.length ≤ T.length + L2.length := by rw [← HTD.out, List.length_append]; omega
        clear hBv hkd hNv hDv hKv
        rcases Nat.lt_or_ge L.length z with hzl | hzl
        all_goals
          go_wp2_with (at_builtin; refine wpList_append_sl rfl (.tmp 66) (.tmp 67) 26 rfl (b + 1) Try.underlying26 Try.info3 rfl rfl hD2 (hx.sl (by unfold maxLen; omega)) (by omega) hbs ?_; intro v3 w3 hown3 hg3 hat3; have hsh3 := hown3.shape; obtain ⟨a4, c4, hv4⟩ := hsh3)
          have G3 : Grew (b + 1) _ v3 (D ++ T) w2 w3 := ⟨hown3, hg3, hat3⟩
          have hN3 := G3.other hN2 HNE.out
          have hB3 := hB2.keeps (Keeps.of_grown hg3) (own_free hD2.from_ (by omega))
          have hK3 := G3.keeps hD2.from_ hK2 (by omega)
          rw [hv4, List.length_append] at hown3 hN3
          clear hv4 hg3 hat3 G3 hN2 hD2 hB2 hK2 hx
          refine (len_any hB3).mono ?_
          rintro e w' ⟨rfl, rfl⟩
          go_wp2_with fail
          refine (room_any hB3).mono ?_
          rintro e w' ⟨rfl, j, rfl⟩
          go_wp2_with fail
          refine (len_any (hB3.drewN j)).mono ?_
          rintro e w' ⟨rfl, rfl⟩
          go_wp2_with fail
          refine (over_any (hB3.drewN j)).mono ?_
          rintro e w' ⟨rfl, rfl⟩
          go_wp2_with fail
          go_roundw
          case rel => exact ⟨k + 1, N, D ++ T, L2, wh, by go_num, by omega, rfl, hN3.1.drewN j, hown3.drewN j, hN3.2, by rw [HNL.out, List.append_assoc, HTD.out], by omega, hB3.drewN j, hK3.drewN j⟩
          case measure => simp [intOf]; omega
      · have hd1 : (d % 4 == 3) = false := by simp [hd]
        clear hd
        go_wp2_with fail
        have bX := Blk.new wr 28 #[.int .u8 d, .int .u8 x]
        have hbX := hB.lt
        have hBv := hB.alloc (.cells #[.int .u8 d, .int .u8 x] 28)
        have hNv := hN.alloc (.cells #[.int .u8 d, .int .u8 x] 28)
        have hDv := hD.alloc (.cells #[.int .u8 d, .int .u8 x] 28)
        have hKv := hK.alloc (.cells #[.int .u8 d, .int .u8 x] 28)
        clear hB hN hD hK x0 x1
        generalize wr.heap.size = X at *
        generalize wr.alloc (.cells #[.int .u8 d, .int .u8 x] 28) = V at *
        clear wr
        have bX1 : V.cell? ⟨X, 1, none⟩ = some (.int .u8 x) := bX.cellAt 1 _ rfl
        by_cases hroom : L.length < n
        · have dq : decide ((N.length : Int) - D.length < n) = true := decide_eq_true (by omega)
          refine (note_ok hBv x (by omega) (by omega) hroom).mono ?_
          rintro e w2 ⟨rfl, hB2, hkd⟩
          have hN2 := hNv.keeps hkd (fun y hy => by have := hNv.from_ y hy; simp; omega)
          have hD2 := hDv.keeps hkd (fun y hy => by have := hDv.from_ y hy; simp; omega)
          have hK2 := hKv.step hkd (by simp; omega)
          have bX2 := bX.keeps hkd (by simp; omega)
          have x2 := bX2.cellAt 1 _ rfl
          have hbs : b + 1 ≤ w2.heap.size := by have := hB2.lt; omega
          clear hBv hkd hNv hDv hKv bX bX1
          have hlen4 : (L ++ [x]).length ≤ L.length + 1 := by simp
          have hlen5 : L.length + 1 ≤ (L ++ [x]).length := by simp
          cases wh
          all_goals
            go_wp2_with (at_builtin; refine wpList_append_sl rfl (.tmp 96) (.tmp 100) 26 rfl (b + 1) Try.underlying26 Try.info3 rfl rfl (hN2.alloc _) (SlI.lit (xs := [x]) (Blk.new w2 3 #[.int .i64 x]) rfl (by unfold maxLen; simp)) (by simp; omega) (by simp; omega) ?_; intro v3 w3 hown3 hg3 hat3; have hsh3 := hown3.shape; obtain ⟨a4, c4, hv4⟩ := hsh3)
            have G3 : Grew (b + 1) _ v3 (N ++ [x]) (w2.alloc (.cells #[.int .i64 x] 3)) w3 := ⟨hown3, hg3, hat3⟩
            have hD3 := G3.other (hD2.alloc _) (fun y hy hy' => HNE.out y hy' hy)
            have hB3 := (hB2.alloc (.cells #[.int .i64 x] 3)).keeps (Keeps.of_grown hg3) (own_free hN2.from_ (by omega))
            have hK3 := G3.keeps hN2.from_ (hK2.alloc _) (by omega)
            rw [hv4, List.length_append, List.length_singleton] at hown3 hD3
            clear hv4 hg3 hat3 G3 hN2 hD2 hB2 hK2 bX2 x2
            refine (len_any hB3).mono ?_
            rintro e w' ⟨rfl, rfl⟩
            have hlen6 : (N ++ [x]).length ≤ k + 1 := by simp; omega
            go_wp2_with fail
            refine (room_any hB3).mono ?_
            rintro e w' ⟨rfl, j, rfl⟩
            go_wp2_with fail
            refine (len_any (hB3.drewN j)).mono ?_
            rintro e w' ⟨rfl, rfl⟩
            go_wp2_with fail
            refine (over_any (hB3.drewN j)).mono ?_
            rintro e w' ⟨rfl, rfl⟩
            go_wp2_with fail
            go_roundw
            case rel => exact ⟨k + 1, N ++ [x], D, L ++ [x], _, by go_num, by omega, rfl, hown3.drewN j, hD3.1.drewN j, (fun y hy hy' => hD3.2 y hy' hy), by rw [HNL.out, List.append_assoc], by simp; omega, hB3.drewN j, hK3.drewN j⟩
            case measure => simp [intOf]; omega
        · have dq : decide ((N.length : Int) - D.length < n) = false := decide_eq_false (by omega)
          refine (note_full hBv x (by omega) (by omega) (by omega)).mono ?_
          rintro e w2 ⟨rfl, hB2, hkd⟩
          have hN2 := hNv.keeps hkd (fun y hy => by have := hNv.from_ y hy; simp; omega)
          have hD2 := hDv.keeps hkd (fun y hy => by have := hDv.from_ y hy; simp; omega)
          have hK2 := hKv.step hkd (by simp; omega)
          clear hBv hkd hNv hDv hKv bX bX1
          cases wh
          all_goals
            go_wp2_with fail
            refine (len_any hB2).mono ?_
            rintro e w' ⟨rfl, rfl⟩
            go_wp2_with fail
            refine (room_any hB2).mono ?_
            rintro e w' ⟨rfl, j, rfl⟩
            go_wp2_with fail
            refine (len_any (hB2.drewN j)).mono ?_
            rintro e w' ⟨rfl, rfl⟩
            go_wp2_with fail
            refine (over_any (hB2.drewN j)).mono ?_
            rintro e w' ⟨rfl, rfl⟩
            go_wp2_with fail
            go_roundw
            case rel => exact ⟨k + 1, N, D, L, false, by go_num, by omega, rfl, hN2.drewN j, hD2.drewN j, HNE.out, HNL.out, by omega, hB2.drewN j, hK2.drewN j⟩
            case measure => simp [intOf]; omega
    · go_wp2_with fail
      refine (drain_ok hB n (by omega)).mono ?_
      rintro e w2 ⟨vx, rfl, hx, hB2, hkd⟩
      have hx' : OwnI w2 wr.heap.size vx L := by rw [List.take_of_length_le hle.2.2] at hx; exact hx
      have hB2' : IsBuf w2 b n [] wh := by rw [List.drop_eq_nil_of_le hle.2.2] at hB2; exact hB2
      have hN2 := hN.keeps hkd (fun y hy => by have := hN.from_ y hy; simp; omega)
      have hD2 := hD.keeps hkd (fun y hy => by have := hD.from_ y hy; simp; omega)
      have hK2 := hK.step hkd (by simp; omega)
      have hs2 : wr.heap.size ≤ w2.heap.size := hkd.size
      have hbs : b + 1 ≤ w2.heap.size := by have := hB2'.lt; omega
      obtain ⟨a3, c3, rfl⟩ := hx'.shape
      clear hx hB2 hkd hN hD hB hK
      go_wp2_with (at_builtin; refine wpList_append_slG (by simp [Region.wanted, yielded]) (.tmp 135) (.tmp 136) 26 rfl (b + 1) Try.underlying26 Try.info3 rfl rfl hD2 (hx'.sl (by unfold maxLen; omega)) (by omega) hbs ?_; intro v3 w3 hown3 hg3 hat3)
      have G3 : Grew (b + 1) _ v3 (D ++ L) w2 w3 := ⟨hown3, hg3, hat3⟩
      have hN3 := (G3.other hN2 HNE.out).1
      have hB3 := hB2'.keeps (Keeps.of_grown hg3) (own_free hD2.from_ (by omega))
      have hK3 := G3.keeps hD2.from_ hK2 (by omega)
      refine (equal_any (hown3.sl (by rw [← HNL.out]; unfold maxLen; omega)) (hN3.sl (by unfold maxLen; omega))).mono ?_
      rintro e w' ⟨rfl, j, rfl⟩
      rw [decide_eq_true HNL.out.symm]
      have hB4 := hB3.drewN j
      have hK4 := hK3.drewN j
      generalize w3.drewN j = w4 at *
      go_wp2_with fail
      refine (len_any hB4).mono ?_
      rintro e w' ⟨rfl, rfl⟩
      go_wp2_with fail
      refine (over_any hB4).mono ?_
      rintro e w' ⟨rfl, rfl⟩
      go_wp2_with fail
      refine (works_ok _).mono ?_
      rintro e w6 ⟨rfl, hk6⟩
      have hK6 := hK4.step (T := []) (Keeps.of_below hk6) (by simp)
      go_wp2_with fail
      go_ret
      exact ⟨rfl, hK6.below⟩

set_option maxRecDepth 100000 in
set_option maxHeartbeats 8000000 in
theorem keeps_big (s : Nat) (hs : s ≤ 255) (g off len cap : Nat) (ms : List (Int × Int)) (w : World) (hwf : ∀ m ∈ ms, (Lit.int .u8 m.1).wf = true ∧ (Lit.int .u8 m.2).wf = true) (hml : ms.length = len) (hlc : len ≤ cap) (hcm : cap ≤ 9223372036854775807) (hg : g < w.heap.size) (hlo : 300 < len)
    (hc : ∀ i, i < len → w.cell? ⟨g, off + i * 2, none⟩ = some (.int .u8 (ms.getD i (0, 0)).1) ∧ w.cell? ⟨g, off + i * 2 + 1, none⟩ = some (.int .u8 (ms.getD i (0, 0)).2)) :
    Calls Try.prog 3 #[.int .u8 s, .slice (some ⟨g, off, none⟩) len cap] w fun e w' => e = .returned (.bool true) ∧ Below w.heap.size w w' := by
  obtain ⟨q, hq, hq'⟩ : ∃ q : Nat, q ≤ 300 ∧ 300 ≤ q := ⟨300, Nat.le_refl _, Nat.le_refl _⟩
  have HWF := Lib.hid hwf
  have HC := Lib.hid hc
  have HML := Lib.hid hml
  clear hwf hc hml
  obtain ⟨n, hn⟩ : ∃ n, 1 + s % 64 = n := ⟨_, rfl⟩
  have hn0 : 1 ≤ n := by omega
  have hn1 : n ≤ 64 := by omega
  have hmade := made_size s hs w
  rw [hn] at hmade
  have HM := Lib.hid hmade
  clear hmade hn
  go_enter Try.func3, Try.ntmps3
  go_wp2_with fail
  refine HM.out.mono ?_
  rintro e w1 ⟨rfl, hb, hk, hz⟩
  clear HM
  obtain ⟨b, hbq⟩ : ∃ b, w.heap.size = b := ⟨_, rfl⟩
  rw [hbq] at hb ⊢
  have hbw : w.heap.size ≤ b := by omega
  clear hz
  have HBQ := Lib.hid hbq
  clear hbq
  go_wp2_with fail
  go_loopw [8, 9, 10, 34] (fun v1 v2 o i wr => ∃ (k : Nat) (N D L : List Int) (wh : Bool), i = .int .i64 k ∧ k ≤ q ∧ o = .bool (!wh) ∧ OwnI wr (b + 1) v1 N ∧ OwnI wr (b + 1) v2 D ∧ (∀ x, v1.ownBlock = some x → v2.ownBlock ≠ some x) ∧ N = D ++ L ∧ N.length ≤ k ∧ IsBuf wr b n L wh ∧ Keeps [] w wr) (fun _ _ _ i _ => q - (intOf i).toNat)
  case atStart => exact ⟨0, [], [], [], true, rfl, Nat.zero_le _, rfl, OwnI.nil _ _, OwnI.nil _ _, (fun x hx => by cases hx), rfl, Nat.le_refl _, hb, hk⟩
  case round =>
    obtain ⟨k, N, D, L, wh, rfl, hkq, rfl, hN, hD, hne, hNL, hNk, hB, hK⟩ := hrel
    have HNE := Lib.hid hne
    have HNL := Lib.hid hNL
    have hnl1 : N.length ≤ D.length + L.length := by rw [hNL, List.length_append]; omega
    have hnl2 : D.length + L.length ≤ N.length := by rw [hNL, List.length_append]; omega
    have hle := hB.le
    obtain ⟨a1, c1, rfl⟩ := hN.shape
    obtain ⟨a2, c2, rfl⟩ := hD.shape
    clear hne hNL hb hk
    by_cases hlt : k < q
    · have hcell := HC.out k (by omega)
      have hw2 := HWF.out _ (getD_mem ms (0, 0) k (by have := HML.out; omega))
      have x0 : wr.cell? ⟨g, off + k * 2, none⟩ = some (.int .u8 (ms.getD k (0, 0)).1) := (hK.cell (p := ⟨g, off + k * 2, none⟩) hg (by simp)).trans hcell.1
      have x1 : wr.cell? ⟨g, off + k * 2 + 1, none⟩ = some (.int .u8 (ms.getD k (0, 0)).2) := (hK.cell (p := ⟨g, off + k * 2 + 1, none⟩) hg (by simp)).trans hcell.2
      have hb1 := bounds_u8 hw2.1
      have hb2 := bounds_u8 hw2.2
      clear hcell hw2
      generalize (ms.getD k (0, 0)).1 = d at *
      generalize (ms.getD k (0, 0)).2 = x at *
      by_cases hd : d % 4 = 3
      · have hd1 : (d % 4 == 3) = true := by simp [hd]
        clear hd
        obtain ⟨z, hz⟩ : ∃ z : Nat, x % 16 = (z : Int) := ⟨(x % 16).toNat, by omega⟩
        have hz16 : z ≤ 15 := by omega
        have HZ := Lib.hid hz
        clear hz
        go_wp2_with fail
        rw [HZ.out]
        have bX := Blk.new wr 28 #[.int .u8 d, .int .u8 x]
        have hbX := hB.lt
        have hBv := hB.alloc (.cells #[.int .u8 d, .int .u8 x] 28)
        have hNv := hN.alloc (.cells #[.int .u8 d, .int .u8 x] 28)
        have hDv := hD.alloc (.cells #[.int .u8 d, .int .u8 x] 28)
        have hKv := hK.alloc (.cells #[.int .u8 d, .int .u8 x] 28)
        clear hB hN hD hK x0 x1
        generalize wr.heap.size = X at *
        generalize wr.alloc (.cells #[.int .u8 d, .int .u8 x] 28) = V at *
        clear wr
        refine (drain_ok hBv z (by omega)).mono ?_
        rintro e w2 ⟨vx, rfl, hx, hB2, hkd⟩
        have hN2 := hNv.keeps hkd (fun y hy => by have := hNv.from_ y hy; simp; omega)
        have hD2 := hDv.keeps hkd (fun y hy => by have := hDv.from_ y hy; simp; omega)
        have hK2 := hKv.step hkd (by simp; omega)
        have hs2 : V.heap.size ≤ w2.heap.size := hkd.size
        have hbs : b + 1 ≤ w2.heap.size := by have := hB2.lt; omega
        obtain ⟨a3, c3, rfl⟩ := hx.shape
        have ht1 : (L.take z).length ≤ z := by rw [List.length_take]; omega
        have ht2 : (L.take z).length ≤ L.length := by rw [List.length_take]; omega
        have ht3 : z ≤ (L.take z).length ∨ L.length ≤ (L.take z).length := by rw [List.length_take]; omega
        have HTD := Lib.hid (List.take_append_drop z L)
        have HTL := Lib.hid (List.length_drop (i := z) (l := L))
        generalize L.take z = T at *
        generalize L.drop z = L2 at *
        have hlen2 : T.length + L2.length ≤ L.length := by rw [← HTD.out, List.length_append]; omega
        have hlen3 : L.length ≤ T.length + L2.length := by rw [← HTD.out, List.length_append]; omega
        clear hBv hkd hNv hDv hKv
        rcases Nat.lt_or_ge L.length z with hzl | hzl
        all_goals
          go_wp2_with (at_builtin; refine wpList_append_sl rfl (.tmp 66) (.tmp 67) 26 rfl (b + 1) Try.underlying26 Try.info3 rfl rfl hD2 (hx.sl (by unfold maxLen; omega)) (by omega) hbs ?_; intro v3 w3 hown3 hg3 hat3; have hsh3 := hown3.shape; obtain ⟨a4, c4, hv4⟩ := hsh3)
          have G3 : Grew (b + 1) _ v3 (D ++ T) w2 w3 := ⟨hown3, hg3, hat3⟩
          have hN3 := G3.other hN2 HNE.out
          have hB3 := hB2.keeps (Keeps.of_grown hg3) (own_free hD2.from_ (by omega))
          have hK3 := G3.keeps hD2.from_ hK2 (by omega)
          rw [hv4, List.length_append] at hown3 hN3
          clear hv4 hg3 hat3 G3 hN2 hD2 hB2 hK2 hx
          refine (len_any hB3).mono ?_
          rintro e w' ⟨rfl, rfl⟩
          go_wp2_with fail
          refine (room_any hB3).mono ?_
          rintro e w' ⟨rfl, j, rfl⟩
          go_wp2_with fail
          refine (len_any (hB3.drewN j)).mono ?_
          rintro e w' ⟨rfl, rfl⟩
          go_wp2_with fail
          refine (over_any (hB3.drewN j)).mono ?_
          rintro e w' ⟨rfl, rfl⟩
          go_wp2_with fail
          go_roundw
          case rel => exact ⟨k + 1, N, D ++ T, L2, wh, by go_num, by omega, rfl, hN3.1.drewN j, hown3.drewN j, hN3.2, by rw [HNL.out, List.append_assoc, HTD.out], by omega, hB3.drewN j, hK3.drewN j⟩
          case measure => simp [intOf]; omega
      · have hd1 : (d % 4 == 3) = false := by simp [hd]
        clear hd
        go_wp2_with fail
        have bX := Blk.new wr 28 #[.int .u8 d, .int .u8 x]
        have hbX := hB.lt
        have hBv := hB.alloc (.cells #[.int .u8 d, .int .u8 x] 28)
        have hNv := hN.alloc (.cells #[.int .u8 d, .int .u8 x] 28)
        have hDv := hD.alloc (.cells #[.int .u8 d, .int .u8 x] 28)
        have hKv := hK.alloc (.cells #[.int .u8 d, .int .u8 x] 28)
        clear hB hN hD hK x0 x1
        generalize wr.heap.size = X at *
        generalize wr.alloc (.cells #[.int .u8 d, .int .u8 x] 28) = V at *
        clear wr
        have bX1 : V.cell? ⟨X, 1, none⟩ = some (.int .u8 x) := bX.cellAt 1 _ rfl
        by_cases hroom : L.length < n
        · have dq : decide ((N.length : Int) - D.length < n) = true := decide_eq_true (by omega)
          refine (note_ok hBv x (by omega) (by omega) hroom).mono ?_
          rintro e w2 ⟨rfl, hB2, hkd⟩
          have hN2 := hNv.keeps hkd (fun y hy => by have := hNv.from_ y hy; simp; omega)
          have hD2 := hDv.keeps hkd (fun y hy => by have := hDv.from_ y hy; simp; omega)
          have hK2 := hKv.step hkd (by simp; omega)
          have bX2 := bX.keeps hkd (by simp; omega)
          have x2 := bX2.cellAt 1 _ rfl
          have hbs : b + 1 ≤ w2.heap.size := by have := hB2.lt; omega
          clear hBv hkd hNv hDv hKv bX bX1
          have hlen4 : (L ++ [x]).length ≤ L.length + 1 := by simp
          have hlen5 : L.length + 1 ≤ (L ++ [x]).length := by simp
          cases wh
          all_goals
            go_wp2_with (at_builtin; refine wpList_append_sl rfl (.tmp 96) (.tmp 100) 26 rfl (b + 1) Try.underlying26 Try.info3 rfl rfl (hN2.alloc _) (SlI.lit (xs := [x]) (Blk.new w2 3 #[.int .i64 x]) rfl (by unfold maxLen; simp)) (by simp; omega) (by simp; omega) ?_; intro v3 w3 hown3 hg3 hat3; have hsh3 := hown3.shape; obtain ⟨a4, c4, hv4⟩ := hsh3)
            have G3 : Grew (b + 1) _ v3 (N ++ [x]) (w2.alloc (.cells #[.int .i64 x] 3)) w3 := ⟨hown3, hg3, hat3⟩
            have hD3 := G3.other (hD2.alloc _) (fun y hy hy' => HNE.out y hy' hy)
            have hB3 := (hB2.alloc (.cells #[.int .i64 x] 3)).keeps (Keeps.of_grown hg3) (own_free hN2.from_ (by omega))
            have hK3 := G3.keeps hN2.from_ (hK2.alloc _) (by omega)
            rw [hv4, List.length_append, List.length_singleton] at hown3 hD3
            clear hv4 hg3 hat3 G3 hN2 hD2 hB2 hK2 bX2 x2
            refine (len_any hB3).mono ?_
            rintro e w' ⟨rfl, rfl⟩
            have hlen6 : (N ++ [x]).length ≤ k + 1 := by simp; omega
            go_wp2_with fail
            refine (room_any hB3).mono ?_
            rintro e w' ⟨rfl, j, rfl⟩
            go_wp2_with fail
            refine (len_any (hB3.drewN j)).mono ?_
            rintro e w' ⟨rfl, rfl⟩
            go_wp2_with fail
            refine (over_any (hB3.drewN j)).mono ?_
            rintro e w' ⟨rfl, rfl⟩
            go_wp2_with fail
            go_roundw
            case rel => exact ⟨k + 1, N ++ [x], D, L ++ [x], _, by go_num, by omega, rfl, hown3.drewN j, hD3.1.drewN j, (fun y hy hy' => hD3.2 y hy' hy), by rw [HNL.out, List.append_assoc], by simp; omega, hB3.drewN j, hK3.drewN j⟩
            case measure => simp [intOf]; omega
        · have dq : decide ((N.length : Int) - D.length < n) = false := decide_eq_false (by omega)
          refine (note_full hBv x (by omega) (by omega) (by omega)).mono ?_
          rintro e w2 ⟨rfl, hB2, hkd⟩
          have hN2 := hNv.keeps hkd (fun y hy => by have := hNv.from_ y hy; simp; omega)
          have hD2 := hDv.keeps hkd (fun y hy => by have := hDv.from_ y hy; simp; omega)
          have hK2 := hKv.step hkd (by simp; omega)
          clear hBv hkd hNv hDv hKv bX bX1
          cases wh
          all_goals
            go_wp2_with fail
            refine (len_any hB2).mono ?_
            rintro e w' ⟨rfl, rfl⟩
            go_wp2_with fail
            refine (room_any hB2).mono ?_
            rintro e w' ⟨rfl, j, rfl⟩
            go_wp2_with fail
            refine (len_any (hB2.drewN j)).mono ?_
            rintro e w' ⟨rfl, rfl⟩
            go_wp2_with fail
            refine (over_any (hB2.drewN j)).mono ?_
            rintro e w' ⟨rfl, rfl⟩
            go_wp2_with fail
            go_roundw
            case rel => exact ⟨k + 1, N, D, L, false, by go_num, by omega, rfl, hN2.drewN j, hD2.drewN j, HNE.out, HNL.out, by omega, hB2.drewN j, hK2.drewN j⟩
            case measure => simp [intOf]; omega
    · go_wp2_with fail
      refine (drain_ok hB n (by omega)).mono ?_
      rintro e w2 ⟨vx, rfl, hx, hB2, hkd⟩
      have hx' : OwnI w2 wr.heap.size vx L := by rw [List.take_of_length_le hle.2.2] at hx; exact hx
      have hB2' : IsBuf w2 b n [] wh := by rw [List.drop_eq_nil_of_le hle.2.2] at hB2; exact hB2
      have hN2 := hN.keeps hkd (fun y hy => by have := hN.from_ y hy; simp; omega)
      have hD2 := hD.keeps hkd (fun y hy => by have := hD.from_ y hy; simp; omega)
      have hK2 := hK.step hkd (by simp; omega)
      have hs2 : wr.heap.size ≤ w2.heap.size := hkd.size
      have hbs : b + 1 ≤ w2.heap.size := by have := hB2'.lt; omega
      obtain ⟨a3, c3, rfl⟩ := hx'.shape
      clear hx hB2 hkd hN hD hB hK
      go_wp2_with (at_builtin; refine wpList_append_slG (by simp [Region.wanted, yielded]) (.tmp 135) (.tmp 136) 26 rfl (b + 1) Try.underlying26 Try.info3 rfl rfl hD2 (hx'.sl (by unfold maxLen; omega)) (by omega) hbs ?_; intro v3 w3 hown3 hg3 hat3)
      have G3 : Grew (b + 1) _ v3 (D ++ L) w2 w3 := ⟨hown3, hg3, hat3⟩
      have hN3 := (G3.other hN2 HNE.out).1
      have hB3 := hB2'.keeps (Keeps.of_grown hg3) (own_free hD2.from_ (by omega))
      have hK3 := G3.keeps hD2.from_ hK2 (by omega)
      refine (equal_any (hown3.sl (by rw [← HNL.out]; unfold maxLen; omega)) (hN3.sl (by unfold maxLen; omega))).mono ?_
      rintro e w' ⟨rfl, j, rfl⟩
      rw [decide_eq_true HNL.out.symm]
      have hB4 := hB3.drewN j
      have hK4 := hK3.drewN j
      generalize w3.drewN j = w4 at *
      go_wp2_with fail
      refine (len_any hB4).mono ?_
      rintro e w' ⟨rfl, rfl⟩
      go_wp2_with fail
      refine (over_any hB4).mono ?_
      rintro e w' ⟨rfl, rfl⟩
      go_wp2_with fail
      refine (works_ok _).mono ?_
      rintro e w6 ⟨rfl, hk6⟩
      have hK6 := hK4.step (T := []) (Keeps.of_below hk6) (by simp)
      go_wp2_with fail
      go_ret
      exact ⟨rfl, hK6.below⟩

theorem keeps_walk (s : Nat) (hs : s ≤ 255) (v : Value) (ms : List (Int × Int)) (w : World) (hv : ArgP .u8 .u8 w v ms) : Calls Try.prog 3 #[.int .u8 s, v] w fun e w' => e = .returned (.bool true) ∧ Below w.heap.size w w' := by
  obtain ⟨hwf, hv⟩ := hv
  rcases hv with ⟨rfl, a, cap, rfl⟩ | ⟨g, off, cap, rfl, hlc, hcm, hg, h0, hc⟩
  · exact keeps_nil s hs a cap w
  · unfold maxLen at hcm
    rcases Nat.lt_or_ge 300 ms.length with h | h
    · exact keeps_big s hs g off ms.length cap ms w hwf rfl hlc hcm hg h (fun i hi => hc i hi)
    · exact keeps_small s hs g off ms.length cap ms w hwf rfl hlc hcm hg h (fun i hi => hc i hi)
end Go.Proofs.Ytmojlfkjbnokcaa
