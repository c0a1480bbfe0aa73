/- BufferPlays: for every input the call returns true, and nothing that was there has changed. No condition. -/
import Derived.Test.YtmojlfkjbnokcaaTwo
import Derived.Test.YtmojlfkjbnokcaaPairs
import Derived.OpenShut
namespace Go.Proofs.Ytmojlfkjbnokcaa
open Go.RowKit
set_option linter.unusedVariables false

/-- The steps of an argument. -/
theorem plays_long (s : Int) (a : Option Addr) (len cap : Nat) (hlo : 300 < len) (w : World) : Calls Try.prog 6 #[.int .i64 s, .slice a len cap] w fun e w' => e = .returned (.bool true) ∧ Below w.heap.size w w' := by
  go_enter Try.func6, Try.ntmps6
  go_wp2_with fail
  refine (works_ok _).mono ?_
  rintro e w1 ⟨rfl, hk⟩
  go_wp2_with fail
  go_ret
  exact ⟨rfl, hk⟩
theorem plays_bad (s : Int) (hs : s < 1 ∨ 64 < s) (a : Option Addr) (len cap : Nat) (hlo : len ≤ 300) (w : World) : Calls Try.prog 6 #[.int .i64 s, .slice a len cap] w fun e w' => e = .returned (.bool true) ∧ Below w.heap.size w w' := by
  have H1 := Lib.hid (new_no hs)
  have H2 := Lib.hid (rnew_no hs)
  clear hs
  go_enter Try.func6, Try.ntmps6
  go_wp2_with fail
  refine (H1.out _).mono ?_
  rintro e w' ⟨rfl, rfl⟩
  go_wp2_with fail
  refine (H2.out _).mono ?_
  rintro e w' ⟨rfl, rfl⟩
  go_wp2_with fail
  refine (works_ok _).mono ?_
  rintro e w1 ⟨rfl, hk⟩
  go_wp2_with fail
  go_ret
  exact ⟨rfl, hk⟩

set_option maxRecDepth 100000 in
set_option maxHeartbeats 16000000 in
theorem plays_nil (sz : Nat) (s0 : 0 < sz) (s1 : sz ≤ 64) (w : World) (a0 : Option Addr) (cap : Nat) : Calls Try.prog 6 #[.int .i64 sz, .slice a0 0 cap] w fun e w' => e = .returned (.bool true) ∧ Below w.heap.size w w' := by
  obtain ⟨q, hq⟩ : ∃ q : Nat, q ≤ 0 := ⟨0, Nat.le_refl _⟩
  go_enter Try.func6, Try.ntmps6
  go_wp2_with fail
  refine (new_ok s0 s1 _).mono ?_
  rintro e w1 ⟨rfl, hb1, k1, hs1⟩
  go_wp2_with fail
  refine (rnew_ok s0 s1 _).mono ?_
  rintro e w2 ⟨rfl, R2, k2⟩
  have hT0 : Two w2 w.heap.size w.heap.size w1.heap.size sz (.slice none 0 0) [] true := ⟨hb1.keeps k2 (by simp), ⟨R2.blk, OwnI.nil _ _, R2.le, Nat.le_trans k1.size k2.size⟩, Nat.le_refl _, k1.size⟩
  have hK2 := k1.trans k2
  clear hb1 R2 k1 k2
  obtain ⟨b0, hb0⟩ : ∃ b0, w.heap.size = b0 := ⟨_, rfl⟩
  have HB0 := Lib.hid hb0
  obtain ⟨r0, hr0⟩ : ∃ r0, w1.heap.size = r0 := ⟨_, rfl⟩
  rw [hr0] at hT0 ⊢
  clear hr0 hs1
  go_wp2_with fail
  go_loopw [5, 7, 9, 10, 51] (fun pb pr p9 p10 i wr => ∃ (k b r : Nat) (v : Value) (L : List Int) (wh : Bool), i = .int .i64 k ∧ k ≤ q ∧ pb = .pointer (some ⟨b, 0, none⟩) ∧ pr = .pointer (some ⟨r, 0, none⟩) ∧ Two wr w.heap.size b r sz v L wh ∧ Old wr w.heap.size b r sz v p9 p10 ∧ Keeps [] w wr) (fun _ _ _ _ i _ => q - (intOf i).toNat)
  case atStart => exact ⟨0, b0, r0, _, _, _, rfl, Nat.zero_le _, rfl, rfl, (by rw [← hb0]; exact hT0), .inl ⟨rfl, rfl⟩, hK2⟩
  case round =>
    obtain ⟨k, b, r, v, L, wh, rfl, hkq, rfl, rfl, hT, hOld, hK⟩ := hrel
    clear hb0
    by_cases hlt : k < q
    · exact absurd hlt (by omega)
    · go_wp2_with fail
      refine (works_ok _).mono ?_
      rintro e w4 ⟨rfl, k4⟩
      have hK4 := hK.trans (Keeps.of_below k4)
      go_wp2_with fail
      go_ret
      exact ⟨rfl, hK4.below⟩

set_option maxRecDepth 100000 in
set_option maxHeartbeats 16000000 in
theorem plays_row (sz : Nat) (s0 : 0 < sz) (s1 : sz ≤ 64) (w : World) (g off len cap : Nat) (ms : List (Int × Int)) (hwf : ∀ m ∈ ms, (Lit.int .i64 m.1).wf = true ∧ (Lit.int .i64 m.2).wf = true) (hml : ms.length = len) (hlc : len ≤ cap) (hcm : cap ≤ 9223372036854775807) (hg : g < w.heap.size) (hlo : len ≤ 300) (hc : ∀ i, i < len → w.cell? ⟨g, off + i * 2, none⟩ = some (.int .i64 (ms.getD i (0, 0)).1) ∧ w.cell? ⟨g, off + i * 2 + 1, none⟩ = some (.int .i64 (ms.getD i (0, 0)).2)) : Calls Try.prog 6 #[.int .i64 sz, .slice (some ⟨g, off, none⟩) len cap] w fun e w' => e = .returned (.bool true) ∧ Below w.heap.size w w' := by
  obtain ⟨q, hq, hq'⟩ : ∃ q : Nat, q ≤ len ∧ len ≤ q := ⟨len, Nat.le_refl _, Nat.le_refl _⟩
  have HWF := Lib.hid hwf
  have HC := Lib.hid hc
  have HML := Lib.hid hml
  clear hwf hc hml
  go_enter Try.func6, Try.ntmps6
  go_wp2_with fail
  refine (new_ok s0 s1 _).mono ?_
  rintro e w1 ⟨rfl, hb1, k1, hs1⟩
  go_wp2_with fail
  refine (rnew_ok s0 s1 _).mono ?_
  rintro e w2 ⟨rfl, R2, k2⟩
  have hT0 : Two w2 w.heap.size w.heap.size w1.heap.size sz (.slice none 0 0) [] true := ⟨hb1.keeps k2 (by simp), ⟨R2.blk, OwnI.nil _ _, R2.le, Nat.le_trans k1.size k2.size⟩, Nat.le_refl _, k1.size⟩
  have hK2 := k1.trans k2
  clear hb1 R2 k1 k2
  obtain ⟨b0, hb0⟩ : ∃ b0, w.heap.size = b0 := ⟨_, rfl⟩
  have HB0 := Lib.hid hb0
  obtain ⟨r0, hr0⟩ : ∃ r0, w1.heap.size = r0 := ⟨_, rfl⟩
  rw [hr0] at hT0 ⊢
  clear hr0 hs1
  go_wp2_with fail
  go_loopw [5, 7, 9, 10, 51] (fun pb pr p9 p10 i wr => ∃ (k b r : Nat) (v : Value) (L : List Int) (wh : Bool), i = .int .i64 k ∧ k ≤ q ∧ pb = .pointer (some ⟨b, 0, none⟩) ∧ pr = .pointer (some ⟨r, 0, none⟩) ∧ Two wr w.heap.size b r sz v L wh ∧ Old wr w.heap.size b r sz v p9 p10 ∧ Keeps [] w wr) (fun _ _ _ _ i _ => q - (intOf i).toNat)
  case atStart => exact ⟨0, b0, r0, _, _, _, rfl, Nat.zero_le _, rfl, rfl, (by rw [← hb0]; exact hT0), .inl ⟨rfl, rfl⟩, hK2⟩
  case round =>
    obtain ⟨k, b, r, v, L, wh, rfl, hkq, rfl, rfl, hT, hOld, hK⟩ := hrel
    clear hb0
    by_cases hlt : k < q
    · have hcell := HC.out k (by omega)
      have hw2 := HWF.out _ (getD_mem ms (0, 0) k (by have := HML.out; omega))
      have x0 : wr.cell? ⟨g, off + k * 2, none⟩ = some (.int .i64 (ms.getD k (0, 0)).1) := (hK.cell (p := ⟨g, off + k * 2, none⟩) hg (by simp)).trans hcell.1
      have x1 : wr.cell? ⟨g, off + k * 2 + 1, none⟩ = some (.int .i64 (ms.getD k (0, 0)).2) := (hK.cell (p := ⟨g, off + k * 2 + 1, none⟩) hg (by simp)).trans hcell.2
      have hx := bounds_i64 hw2.2
      clear hcell hw2
      generalize (ms.getD k (0, 0)).1 = d at *
      generalize (ms.getD k (0, 0)).2 = x at *
      have hx2 := hx.2
      clear hx hT0 hK2
      rcases hOld with ⟨rfl, rfl⟩ | ⟨b', r', v', L', wh', rfl, rfl, hO, hDD⟩
      · have hDD : True := trivial
        by_cases e0 : d = 0
        · subst e0
          go_wp2_with fail
          have bX0 := Blk.new wr 48 #[.int .i64 0, .int .i64 x]
          have hKv := (Keeps.refl [] wr).alloc (.cells #[.int .i64 0, .int .i64 x] 48)
          have TV := hT.into hKv
          have hKV := hK.trans hKv
          have hsz : wr.heap.size < (wr.alloc (.cells #[.int .i64 0, .int .i64 x] 48)).heap.size := by simp
          have htl : ∀ y ∈ blocks b r v, y < wr.heap.size := fun y hy => (hT.lt y hy).2
          have HTL := Lib.hid htl
          clear hT hK x0 x1 hKv htl
          generalize wr.heap.size = X at *
          generalize wr.alloc (.cells #[.int .i64 0, .int .i64 x] 48) = V at *
          have bX := Lib.hid bX0
          clear bX0
          refine (note_any TV.buf x).mono ?_
          rintro e w1 ⟨rfl, hB1, k1⟩
          have R1 := TV.ref1 k1
          have y1 := (bX.out.keeps k1 (by have := HTL.out b (by simp [blocks]); simp; omega)).cellAt 1 _ rfl
          go_wp2_with fail
          clear y1
          refine (rnote_any R1 TV.buf.le.2.2 TV.buf.le.2.1 x).mono ?_
          rintro e w2 ⟨rfl, v2, R2, k2, f2⟩
          obtain ⟨T2, K2, F2⟩ := TV.next hB1 k1 R2 k2 f2
          have hK5 := TV.keep hKV (Nat.le_refl _) K2
          clear TV hB1 R1 k1 R2 k2 f2 hKV
          generalize noteB x L sz = nb at *
          generalize noteE x = ne at *
          generalize noteL x L sz = L2 at *
          generalize noteW x L sz wh = wh2 at *
          go_wp2_with fail
          refine (shows_ok T2.buf T2.ref).mono ?_
          rintro e w6 ⟨rfl, k6⟩
          have T6 := T2.into k6
          have hK6 := hK5.trans k6
          go_wp2_with fail
          go_roundw
          case rel => exact ⟨k + 1, _, _, _, _, _, by go_num, by omega, rfl, rfl, T6, .inl ⟨rfl, rfl⟩, hK6⟩
          case measure => simp [intOf] <;> omega
        · have f0 : (d == 0) = false := beq_eq_false_iff_ne.2 e0
          clear e0
          by_cases e1 : d = 1
          · subst e1
            go_wp2_with fail
            have bX0 := Blk.new wr 48 #[.int .i64 1, .int .i64 x]
            have hKv := (Keeps.refl [] wr).alloc (.cells #[.int .i64 1, .int .i64 x] 48)
            have TV := hT.into hKv
            have hKV := hK.trans hKv
            have hsz : wr.heap.size < (wr.alloc (.cells #[.int .i64 1, .int .i64 x] 48)).heap.size := by simp
            have htl : ∀ y ∈ blocks b r v, y < wr.heap.size := fun y hy => (hT.lt y hy).2
            have HTL := Lib.hid htl
            clear hT hK x0 x1 hKv htl
            generalize wr.heap.size = X at *
            generalize wr.alloc (.cells #[.int .i64 1, .int .i64 x] 48) = V at *
            have bX := Lib.hid bX0
            clear bX0
            refine (drain_any TV.buf x (by omega)).mono ?_
            rintro e w1 ⟨vp, rfl, hp, hB1, k1⟩
            have R1 := TV.ref1 k1
            have y1 := (bX.out.keeps k1 (by have := HTL.out b (by simp [blocks]); simp; omega)).cellAt 1 _ rfl
            have hlD : (drT x L).length ≤ maxLen := by have h1 := TV.buf.le; unfold drT maxLen; split <;> simp <;> omega
            obtain ⟨LT, hLT⟩ : ∃ LT, drT x L = LT := ⟨_, rfl⟩
            rw [hLT] at hp hlD
            have HLT := Lib.hid hLT
            clear hLT
            obtain ⟨ap, cp, rfl⟩ := hp.shape
            have hV := TV.ref.lt
            go_wp2_with fail
            clear y1
            refine (rdrain_any R1 x (by omega)).mono ?_
            rintro e w2 ⟨vo, v2, rfl, ho, R2, k2, f2⟩
            rw [HLT.out] at ho
            obtain ⟨ao, co, rfl⟩ := ho.shape
            obtain ⟨T2, K2, F2⟩ := TV.next hB1 k1 R2 (k2.mono (by simp)) f2
            have hK4 := TV.keep hKV (Nat.le_refl _) K2
            have hp2 := hp.keeps k2 (fun y hy => by have h1 := hp.from_ y hy; simp; omega)
            clear TV hB1 R1 k1 R2 k2 f2 hKV HLT
            go_wp2_with fail
            refine (equal_any (hp2.sl hlD) (ho.sl hlD)).mono ?_
            rintro e w' ⟨rfl, j, rfl⟩
            rw [decide_eq_true rfl]
            have kj := (Keeps.refl [] w2).drewN j
            have T2 := T2.into kj
            have hK5 := hK4.trans kj
            clear kj hp2 ho hp
            generalize drE x = ne at *
            generalize drD x L = L2 at *
            generalize w2.drewN j = w5 at *
            go_wp2_with fail
            refine (shows_ok T2.buf T2.ref).mono ?_
            rintro e w6 ⟨rfl, k6⟩
            have T6 := T2.into k6
            have hK6 := hK5.trans k6
            go_wp2_with fail
            go_roundw
            case rel => exact ⟨k + 1, _, _, _, _, _, by go_num, by omega, rfl, rfl, T6, .inl ⟨rfl, rfl⟩, hK6⟩
            case measure => simp [intOf] <;> omega
          · have f1 : (d == 1) = false := beq_eq_false_iff_ne.2 e1
            clear e1
            by_cases e2 : d = 2
            · subst e2
              go_wp2_with fail
              have bX0 := Blk.new wr 48 #[.int .i64 2, .int .i64 x]
              have hKv := (Keeps.refl [] wr).alloc (.cells #[.int .i64 2, .int .i64 x] 48)
              have TV := hT.into hKv
              have hKV := hK.trans hKv
              have hsz : wr.heap.size < (wr.alloc (.cells #[.int .i64 2, .int .i64 x] 48)).heap.size := by simp
              have htl : ∀ y ∈ blocks b r v, y < wr.heap.size := fun y hy => (hT.lt y hy).2
              have HTL := Lib.hid htl
              clear hT hK x0 x1 hKv htl
              generalize wr.heap.size = X at *
              generalize wr.alloc (.cells #[.int .i64 2, .int .i64 x] 48) = V at *
              have bX := Lib.hid bX0
              clear bX0
              refine (settle_any TV.buf).mono ?_
              rintro e w1 ⟨rfl, hB1, k1⟩
              have R1 := TV.ref1 k1
              go_wp2_with fail
              refine (rsettle_any R1).mono ?_
              rintro e w2 ⟨rfl, R2, k2⟩
              obtain ⟨T2, K2, F2⟩ := TV.next hB1 k1 R2 (k2.mono (by simp)) (fun y hy => .inl hy)
              have hK5 := TV.keep hKV (Nat.le_refl _) K2
              clear TV hB1 R1 k1 R2 k2 hKV
              go_wp2_with fail
              refine (shows_ok T2.buf T2.ref).mono ?_
              rintro e w6 ⟨rfl, k6⟩
              have T6 := T2.into k6
              have hK6 := hK5.trans k6
              go_wp2_with fail
              go_roundw
              case rel => exact ⟨k + 1, _, _, _, _, _, by go_num, by omega, rfl, rfl, T6, .inl ⟨rfl, rfl⟩, hK6⟩
              case measure => simp [intOf] <;> omega
            · have f2 : (d == 2) = false := beq_eq_false_iff_ne.2 e2
              clear e2
              by_cases e3 : d = 3
              · subst e3
                go_wp2_with fail
                have bX0 := Blk.new wr 48 #[.int .i64 3, .int .i64 x]
                have hKv := (Keeps.refl [] wr).alloc (.cells #[.int .i64 3, .int .i64 x] 48)
                have TV := hT.into hKv
                have hKV := hK.trans hKv
                have hsz : wr.heap.size < (wr.alloc (.cells #[.int .i64 3, .int .i64 x] 48)).heap.size := by simp
                have htl : ∀ y ∈ blocks b r v, y < wr.heap.size := fun y hy => (hT.lt y hy).2
                have HTL := Lib.hid htl
                clear hT hK x0 x1 hKv htl
                generalize wr.heap.size = X at *
                generalize wr.alloc (.cells #[.int .i64 3, .int .i64 x] 48) = V at *
                have bX := Lib.hid bX0
                clear bX0
                refine (copy_ok TV.buf).mono ?_
                rintro e w1 ⟨rfl, hB1, k1, hs1⟩
                obtain ⟨b2, hb2⟩ : ∃ b2, V.heap.size = b2 := ⟨_, rfl⟩
                have O1 := TV.into k1
                have hbl := fun y hy => (TV.lt y hy).2
                rw [hb2] at hB1 hs1 hbl ⊢
                have HBL := Lib.hid hbl
                clear hbl
                go_wp2_with fail
                refine (rcopy_ok O1.ref).mono ?_
                rintro e w2 ⟨r2, v2, rfl, R2, k2, hr2, f2⟩
                have O2 := O1.into k2
                have hb0 : w.heap.size ≤ b2 := by have := TV.lt b (by simp [blocks]); have := HBL.out b (by simp [blocks]); omega
                have T2 : Two w2 w.heap.size b2 r2 sz v2 L wh := ⟨hB1.keeps k2 (by simp), R2, hb0, by omega⟩
                have DD : ∀ y ∈ blocks b r v, y ∉ blocks b2 r2 v2 := by
                  intro y hy hm
                  have h1 := HBL.out y hy
                  simp only [blocks, List.mem_cons, Option.mem_toList] at hm
                  rcases hm with h | h | h
                  · omega
                  · omega
                  · have := f2 y h; omega
                have hK5 := (hKV.trans k1).trans k2
                clear TV hB1 O1 k1 R2 k2 f2 hKV hb2
                go_wp2_with fail
                refine (shows_ok T2.buf T2.ref).mono ?_
                rintro e w6 ⟨rfl, k6⟩
                have T6 := T2.into k6
                have O6 := O2.into k6
                have hK6 := hK5.trans k6
                go_wp2_with fail
                refine (shows_ok O6.buf O6.ref).mono ?_
                rintro e w7 ⟨rfl, k7⟩
                have T7 := T6.into k7
                have O7 := O6.into k7
                have hK7 := hK6.trans k7
                go_wp2_with fail
                go_roundw
                case rel => exact ⟨k + 1, _, _, _, _, _, by go_num, by omega, rfl, rfl, T7, .inr ⟨_, _, _, _, _, rfl, rfl, O7, DD⟩, hK7⟩
                case measure => simp [intOf] <;> omega
              · have f3 : (d == 3) = false := beq_eq_false_iff_ne.2 e3
                clear e3
                go_wp2_with fail
                have bX0 := Blk.new wr 48 #[.int .i64 d, .int .i64 x]
                have hKv := (Keeps.refl [] wr).alloc (.cells #[.int .i64 d, .int .i64 x] 48)
                have TV := hT.into hKv
                have hKV := hK.trans hKv
                have hsz : wr.heap.size < (wr.alloc (.cells #[.int .i64 d, .int .i64 x] 48)).heap.size := by simp
                have htl : ∀ y ∈ blocks b r v, y < wr.heap.size := fun y hy => (hT.lt y hy).2
                have HTL := Lib.hid htl
                clear hT hK x0 x1 hKv htl
                generalize wr.heap.size = X at *
                generalize wr.alloc (.cells #[.int .i64 d, .int .i64 x] 48) = V at *
                have bX := Lib.hid bX0
                clear bX0
                have T2 := TV
                have hK5 := hKV
                refine (shows_ok T2.buf T2.ref).mono ?_
                rintro e w6 ⟨rfl, k6⟩
                have T6 := T2.into k6
                have hK6 := hK5.trans k6
                go_wp2_with fail
                go_roundw
                case rel => exact ⟨k + 1, _, _, _, _, _, by go_num, by omega, rfl, rfl, T6, .inl ⟨rfl, rfl⟩, hK6⟩
                case measure => simp [intOf] <;> omega
      · have HDD := Lib.hid hDD
        clear hDD
        by_cases e0 : d = 0
        · subst e0
          go_wp2_with fail
          have bX0 := Blk.new wr 48 #[.int .i64 0, .int .i64 x]
          have hKv := (Keeps.refl [] wr).alloc (.cells #[.int .i64 0, .int .i64 x] 48)
          have TV := hT.into hKv
          have OV := hO.into hKv
          have hKV := hK.trans hKv
          have hsz : wr.heap.size < (wr.alloc (.cells #[.int .i64 0, .int .i64 x] 48)).heap.size := by simp
          have htl : ∀ y ∈ blocks b r v, y < wr.heap.size := fun y hy => (hT.lt y hy).2
          have HTL := Lib.hid htl
          clear hT hK x0 x1 hKv htl hO
          generalize wr.heap.size = X at *
          generalize wr.alloc (.cells #[.int .i64 0, .int .i64 x] 48) = V at *
          have bX := Lib.hid bX0
          clear bX0
          refine (note_any TV.buf x).mono ?_
          rintro e w1 ⟨rfl, hB1, k1⟩
          have R1 := TV.ref1 k1
          have y1 := (bX.out.keeps k1 (by have := HTL.out b (by simp [blocks]); simp; omega)).cellAt 1 _ rfl
          go_wp2_with fail
          clear y1
          refine (rnote_any R1 TV.buf.le.2.2 TV.buf.le.2.1 x).mono ?_
          rintro e w2 ⟨rfl, v2, R2, k2, f2⟩
          obtain ⟨T2, K2, F2⟩ := TV.next hB1 k1 R2 k2 f2
          obtain ⟨O2, DD⟩ := OV.step HDD.out K2 F2
          have hK5 := TV.keep hKV (Nat.le_refl _) K2
          clear TV hB1 R1 k1 R2 k2 f2 hKV
          generalize noteB x L sz = nb at *
          generalize noteE x = ne at *
          generalize noteL x L sz = L2 at *
          generalize noteW x L sz wh = wh2 at *
          go_wp2_with fail
          refine (shows_ok T2.buf T2.ref).mono ?_
          rintro e w6 ⟨rfl, k6⟩
          have T6 := T2.into k6
          have O6 := O2.into k6
          have hK6 := hK5.trans k6
          go_wp2_with fail
          refine (shows_ok O6.buf O6.ref).mono ?_
          rintro e w7 ⟨rfl, k7⟩
          have T7 := T6.into k7
          have O7 := O6.into k7
          have hK7 := hK6.trans k7
          go_wp2_with fail
          go_roundw
          case rel => exact ⟨k + 1, _, _, _, _, _, by go_num, by omega, rfl, rfl, T7, .inr ⟨_, _, _, _, _, rfl, rfl, O7, DD⟩, hK7⟩
          case measure => simp [intOf] <;> omega
        · have f0 : (d == 0) = false := beq_eq_false_iff_ne.2 e0
          clear e0
          by_cases e1 : d = 1
          · subst e1
            go_wp2_with fail
            have bX0 := Blk.new wr 48 #[.int .i64 1, .int .i64 x]
            have hKv := (Keeps.refl [] wr).alloc (.cells #[.int .i64 1, .int .i64 x] 48)
            have TV := hT.into hKv
            have OV := hO.into hKv
            have hKV := hK.trans hKv
            have hsz : wr.heap.size < (wr.alloc (.cells #[.int .i64 1, .int .i64 x] 48)).heap.size := by simp
            have htl : ∀ y ∈ blocks b r v, y < wr.heap.size := fun y hy => (hT.lt y hy).2
            have HTL := Lib.hid htl
            clear hT hK x0 x1 hKv htl hO
            generalize wr.heap.size = X at *
            generalize wr.alloc (.cells #[.int .i64 1, .int .i64 x] 48) = V at *
            have bX := Lib.hid bX0
            clear bX0
            refine (drain_any TV.buf x (by omega)).mono ?_
            rintro e w1 ⟨vp, rfl, hp, hB1, k1⟩
            have R1 := TV.ref1 k1
            have y1 := (bX.out.keeps k1 (by have := HTL.out b (by simp [blocks]); simp; omega)).cellAt 1 _ rfl
            have hlD : (drT x L).length ≤ maxLen := by have h1 := TV.buf.le; unfold drT maxLen; split <;> simp <;> omega
            obtain ⟨LT, hLT⟩ : ∃ LT, drT x L = LT := ⟨_, rfl⟩
            rw [hLT] at hp hlD
            have HLT := Lib.hid hLT
            clear hLT
            obtain ⟨ap, cp, rfl⟩ := hp.shape
            have hV := TV.ref.lt
            go_wp2_with fail
            clear y1
            refine (rdrain_any R1 x (by omega)).mono ?_
            rintro e w2 ⟨vo, v2, rfl, ho, R2, k2, f2⟩
            rw [HLT.out] at ho
            obtain ⟨ao, co, rfl⟩ := ho.shape
            obtain ⟨T2, K2, F2⟩ := TV.next hB1 k1 R2 (k2.mono (by simp)) f2
            obtain ⟨O2, DD⟩ := OV.step HDD.out K2 F2
            have hK4 := TV.keep hKV (Nat.le_refl _) K2
            have hp2 := hp.keeps k2 (fun y hy => by have h1 := hp.from_ y hy; simp; omega)
            clear TV hB1 R1 k1 R2 k2 f2 hKV HLT
            go_wp2_with fail
            refine (equal_any (hp2.sl hlD) (ho.sl hlD)).mono ?_
            rintro e w' ⟨rfl, j, rfl⟩
            rw [decide_eq_true rfl]
            have kj := (Keeps.refl [] w2).drewN j
            have T2 := T2.into kj
            have O2 := O2.into kj
            have hK5 := hK4.trans kj
            clear kj hp2 ho hp
            generalize drE x = ne at *
            generalize drD x L = L2 at *
            generalize w2.drewN j = w5 at *
            go_wp2_with fail
            refine (shows_ok T2.buf T2.ref).mono ?_
            rintro e w6 ⟨rfl, k6⟩
            have T6 := T2.into k6
            have O6 := O2.into k6
            have hK6 := hK5.trans k6
            go_wp2_with fail
            refine (shows_ok O6.buf O6.ref).mono ?_
            rintro e w7 ⟨rfl, k7⟩
            have T7 := T6.into k7
            have O7 := O6.into k7
            have hK7 := hK6.trans k7
            go_wp2_with fail
            go_roundw
            case rel => exact ⟨k + 1, _, _, _, _, _, by go_num, by omega, rfl, rfl, T7, .inr ⟨_, _, _, _, _, rfl, rfl, O7, DD⟩, hK7⟩
            case measure => simp [intOf] <;> omega
          · have f1 : (d == 1) = false := beq_eq_false_iff_ne.2 e1
            clear e1
            by_cases e2 : d = 2
            · subst e2
              go_wp2_with fail
              have bX0 := Blk.new wr 48 #[.int .i64 2, .int .i64 x]
              have hKv := (Keeps.refl [] wr).alloc (.cells #[.int .i64 2, .int .i64 x] 48)
              have TV := hT.into hKv
              have OV := hO.into hKv
              have hKV := hK.trans hKv
              have hsz : wr.heap.size < (wr.alloc (.cells #[.int .i64 2, .int .i64 x] 48)).heap.size := by simp
              have htl : ∀ y ∈ blocks b r v, y < wr.heap.size := fun y hy => (hT.lt y hy).2
              have HTL := Lib.hid htl
              clear hT hK x0 x1 hKv htl hO
              generalize wr.heap.size = X at *
              generalize wr.alloc (.cells #[.int .i64 2, .int .i64 x] 48) = V at *
              have bX := Lib.hid bX0
              clear bX0
              refine (settle_any TV.buf).mono ?_
              rintro e w1 ⟨rfl, hB1, k1⟩
              have R1 := TV.ref1 k1
              go_wp2_with fail
              refine (rsettle_any R1).mono ?_
              rintro e w2 ⟨rfl, R2, k2⟩
              obtain ⟨T2, K2, F2⟩ := TV.next hB1 k1 R2 (k2.mono (by simp)) (fun y hy => .inl hy)
              obtain ⟨O2, DD⟩ := OV.step HDD.out K2 F2
              have hK5 := TV.keep hKV (Nat.le_refl _) K2
              clear TV hB1 R1 k1 R2 k2 hKV
              go_wp2_with fail
              refine (shows_ok T2.buf T2.ref).mono ?_
              rintro e w6 ⟨rfl, k6⟩
              have T6 := T2.into k6
              have O6 := O2.into k6
              have hK6 := hK5.trans k6
              go_wp2_with fail
              refine (shows_ok O6.buf O6.ref).mono ?_
              rintro e w7 ⟨rfl, k7⟩
              have T7 := T6.into k7
              have O7 := O6.into k7
              have hK7 := hK6.trans k7
              go_wp2_with fail
              go_roundw
              case rel => exact ⟨k + 1, _, _, _, _, _, by go_num, by omega, rfl, rfl, T7, .inr ⟨_, _, _, _, _, rfl, rfl, O7, DD⟩, hK7⟩
              case measure => simp [intOf] <;> omega
            · have f2 : (d == 2) = false := beq_eq_false_iff_ne.2 e2
              clear e2
              by_cases e3 : d = 3
              · subst e3
                go_wp2_with fail
                have bX0 := Blk.new wr 48 #[.int .i64 3, .int .i64 x]
                have hKv := (Keeps.refl [] wr).alloc (.cells #[.int .i64 3, .int .i64 x] 48)
                have TV := hT.into hKv
                have OV := hO.into hKv
                have hKV := hK.trans hKv
                have hsz : wr.heap.size < (wr.alloc (.cells #[.int .i64 3, .int .i64 x] 48)).heap.size := by simp
                have htl : ∀ y ∈ blocks b r v, y < wr.heap.size := fun y hy => (hT.lt y hy).2
                have HTL := Lib.hid htl
                clear hT hK x0 x1 hKv htl hO
                generalize wr.heap.size = X at *
                generalize wr.alloc (.cells #[.int .i64 3, .int .i64 x] 48) = V at *
                have bX := Lib.hid bX0
                clear bX0
                refine (copy_ok TV.buf).mono ?_
                rintro e w1 ⟨rfl, hB1, k1, hs1⟩
                obtain ⟨b2, hb2⟩ : ∃ b2, V.heap.size = b2 := ⟨_, rfl⟩
                have O1 := TV.into k1
                have hbl := fun y hy => (TV.lt y hy).2
                rw [hb2] at hB1 hs1 hbl ⊢
                have HBL := Lib.hid hbl
                clear hbl
                go_wp2_with fail
                refine (rcopy_ok O1.ref).mono ?_
                rintro e w2 ⟨r2, v2, rfl, R2, k2, hr2, f2⟩
                have O2 := O1.into k2
                have hb0 : w.heap.size ≤ b2 := by have := TV.lt b (by simp [blocks]); have := HBL.out b (by simp [blocks]); omega
                have T2 : Two w2 w.heap.size b2 r2 sz v2 L wh := ⟨hB1.keeps k2 (by simp), R2, hb0, by omega⟩
                have DD : ∀ y ∈ blocks b r v, y ∉ blocks b2 r2 v2 := by
                  intro y hy hm
                  have h1 := HBL.out y hy
                  simp only [blocks, List.mem_cons, Option.mem_toList] at hm
                  rcases hm with h | h | h
                  · omega
                  · omega
                  · have := f2 y h; omega
                have hK5 := (hKV.trans k1).trans k2
                clear TV hB1 O1 k1 R2 k2 f2 hKV hb2
                go_wp2_with fail
                refine (shows_ok T2.buf T2.ref).mono ?_
                rintro e w6 ⟨rfl, k6⟩
                have T6 := T2.into k6
                have O6 := O2.into k6
                have hK6 := hK5.trans k6
                go_wp2_with fail
                refine (shows_ok O6.buf O6.ref).mono ?_
                rintro e w7 ⟨rfl, k7⟩
                have T7 := T6.into k7
                have O7 := O6.into k7
                have hK7 := hK6.trans k7
                go_wp2_with fail
                go_roundw
                case rel => exact ⟨k + 1, _, _, _, _, _, by go_num, by omega, rfl, rfl, T7, .inr ⟨_, _, _, _, _, rfl, rfl, O7, DD⟩, hK7⟩
                case measure => simp [intOf] <;> omega
              · have f3 : (d == 3) = false := beq_eq_false_iff_ne.2 e3
                clear e3
                go_wp2_with fail
                have bX0 := Blk.new wr 48 #[.int .i64 d, .int .i64 x]
                have hKv := (Keeps.refl [] wr).alloc (.cells #[.int .i64 d, .int .i64 x] 48)
                have TV := hT.into hKv
                have OV := hO.into hKv
                have hKV := hK.trans hKv
                have hsz : wr.heap.size < (wr.alloc (.cells #[.int .i64 d, .int .i64 x] 48)).heap.size := by simp
                have htl : ∀ y ∈ blocks b r v, y < wr.heap.size := fun y hy => (hT.lt y hy).2
                have HTL := Lib.hid htl
                clear hT hK x0 x1 hKv htl hO
                generalize wr.heap.size = X at *
                generalize wr.alloc (.cells #[.int .i64 d, .int .i64 x] 48) = V at *
                have bX := Lib.hid bX0
                clear bX0
                have T2 := TV
                have O2 := OV
                have DD := HDD.out
                have hK5 := hKV
                refine (shows_ok T2.buf T2.ref).mono ?_
                rintro e w6 ⟨rfl, k6⟩
                have T6 := T2.into k6
                have O6 := O2.into k6
                have hK6 := hK5.trans k6
                go_wp2_with fail
                refine (shows_ok O6.buf O6.ref).mono ?_
                rintro e w7 ⟨rfl, k7⟩
                have T7 := T6.into k7
                have O7 := O6.into k7
                have hK7 := hK6.trans k7
                go_wp2_with fail
                go_roundw
                case rel => exact ⟨k + 1, _, _, _, _, _, by go_num, by omega, rfl, rfl, T7, .inr ⟨_, _, _, _, _, rfl, rfl, O7, DD⟩, hK7⟩
                case measure => simp [intOf] <;> omega
    · go_wp2_with fail
      refine (works_ok _).mono ?_
      rintro e w4 ⟨rfl, k4⟩
      have hK4 := hK.trans (Keeps.of_below k4)
      go_wp2_with fail
      go_ret
      exact ⟨rfl, hK4.below⟩

theorem plays_walk (s : Int) (v : Value) (ms : List (Int × Int)) (w : World) (hv : ArgP .i64 .i64 w v ms) : Calls Try.prog 6 #[.int .i64 s, v] w fun e w' => e = .returned (.bool true) ∧ Below w.heap.size w w' := by
  obtain ⟨hwf, hv⟩ := hv
  by_cases hs : 1 ≤ s ∧ s ≤ 64
  · obtain ⟨sz, rfl⟩ := Int.eq_ofNat_of_zero_le (show 0 ≤ s by omega)
    rcases hv with ⟨rfl, a, cap, rfl⟩ | ⟨g, off, cap, rfl, hlc, hcm, hg, h0, hc⟩
    · exact plays_nil sz (by omega) (by omega) w a cap
    · unfold maxLen at hcm
      rcases Nat.lt_or_ge 300 ms.length with h | h
      · exact plays_long _ _ _ _ h w
      · exact plays_row sz (by omega) (by omega) w g off ms.length cap ms hwf rfl hlc hcm hg h (fun i hi => hc i hi)
  · rcases hv with ⟨rfl, a, cap, rfl⟩ | ⟨g, off, cap, rfl, hlc, hcm, hg, h0, hc⟩
    · exact plays_bad s (by omega) a 0 cap (by omega) w
    · rcases Nat.lt_or_ge 300 ms.length with h | h
      · exact plays_long _ _ _ _ h w
      · exact plays_bad s (by omega) _ _ _ h w
end Go.Proofs.Ytmojlfkjbnokcaa
