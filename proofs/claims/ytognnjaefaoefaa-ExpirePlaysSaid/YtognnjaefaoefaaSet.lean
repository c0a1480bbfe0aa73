/- The contract of Set. Condition: a queue that was made, its list in order. Printed by gen-set.py. -/
import Derived.Test.YtognnjaefaoefaaQueue
import Derived.Deep.RegionHeld3
namespace Go.Proofs.Ytognnjaefaoefaa
open Go.RowKit

/-- What Set answers. -/
def setErr (L : List (Int × Int)) (id at_ : Int) : Int := if at_ < 0 ∨ 1099511627776 < at_ then 2 else if ¬ placeOf L id < L.length ∧ 256 ≤ L.length then 4 else 0
/-- What stands there behind Set. -/
def setL (L : List (Int × Int)) (id at_ : Int) : List (Int × Int) := if setErr L id at_ = 0 then setE L id at_ else L
theorem Turned.of {w w' : World} {b : Nat} {v v' : Value} {L : List (Int × Int)} (h : IsQ w' b v' L) (hg : Good L) (hl : L.length ≤ 256) (k : Keeps (b :: v.ownBlock.toList) w w') (ha : ∀ x, v'.ownBlock = some x → v.ownBlock = some x ∨ w.heap.size ≤ x) : Turned w w' b (b :: v.ownBlock.toList) L := by
  refine ⟨_, ⟨v', h, rfl, hg, hl⟩, k, fun x hx => ?_⟩
  rcases List.mem_cons.1 hx with rfl | hx
  · exact .inl (by simp)
  · rcases ha x (by simpa using hx) with h1 | h1
    · exact .inl (by simp [h1])
    · exact .inr h1

set_option maxRecDepth 1000000 in
set_option maxHeartbeats 600000 in
theorem Set_in {w : World} {b : Nat} {O : List Nat} {L : List (Int × Int)} (h : Qu w b O L) (id a : Int) :
    Calls Try.prog 16 #[.pointer (some ⟨b, 0, none⟩), .int .i64 id, .int .i64 a] w fun e w' => e = .returned (.int .i64 (setErr L id a)) ∧ Turned w w' b O (setL L id a) := by
  have HQ := Lib.hid h
  obtain ⟨v, hq, rfl, hg, hl⟩ := h
  have hF := Lib.hid (find_in hq id (by omega))
  have HV := Lib.hid (fun W (k : Keeps [] w W) => valid_yes (hq.keep0 k).blk)
  have HQ0 := Lib.hid hq
  have HG := Lib.hid hg
  unfold findI at hF
  by_cases ha : a < 0 ∨ 1099511627776 < a
  · have he : setErr L id a = 2 := if_pos ha
    have hL : setL L id a = L := by unfold setL; rw [he, if_neg (by decide)]
    rw [he, hL]
    clear hq hg he hL
    rcases (show a < 0 ∨ (¬ a < 0 ∧ 1099511627776 < a) by omega) with h1 | ⟨h1, h2⟩
    all_goals
      clear ha
      generalize (if placeOf L id < L.length then (placeOf L id : Int) else -1) = i at *
      go_enter Try.func16, Try.ntmps16
      go_wp2_with fail
      refine hF.out.mono ?_
      rintro e w1 ⟨rfl, k1⟩
      go_wp2_with fail
      refine (HV.out _ k1).mono ?_
      rintro e w' ⟨rfl, rfl⟩
      go_wp2_with fail
      go_ret
      exact ⟨rfl, HQ.out.same k1⟩
  · have ha1 : ¬ a < 0 := by omega
    have ha2 : ¬ 1099511627776 < a := by omega
    by_cases hp : placeOf L id < L.length
    · have he : setErr L id a = 0 := by unfold setErr; rw [if_neg ha, if_neg (by simp [hp])]
      have hL : setL L id a = insE (id, a) (dropE L id) := by unfold setL; rw [he, if_pos rfl]; rfl
      rw [he, hL]
      rw [if_pos hp] at hF
      clear he hL ha
      have HD := Lib.hid (dropE_here hg.ids hp)
      have HL := Lib.hid (dropE_len hg hp)
      have HGM := Lib.hid (hg.dropE id)
      have HIM := Lib.hid (fun (e : Int × Int) (he : e ∈ dropE L id) => (mem_dropE.1 he).2)
      generalize dropE L id = M at *
      generalize placeOf L id = k at *
      have hkI : ¬ (k : Int) < 0 := by omega
      have hk1 : (k : Int) + 1 = ((k + 1 : Nat) : Int) := by omega
      have HK1 := Lib.hid hk1
      clear hq hg hk1
      go_enter Try.func16, Try.ntmps16
      go_wp2_with fail
      refine hF.out.mono ?_
      rintro e w1 ⟨rfl, k1⟩
      go_wp2_with fail
      refine (HV.out _ k1).mono ?_
      rintro e w' ⟨rfl, rfl⟩
      have hq := HQ0.out.keep0 k1
      have hc := hq.blk.cellAt 1 _ rfl
      rcases hq.own with ⟨rfl, rfl⟩ | ⟨g, cap, rfl, _, hr⟩
      · simp at hp
      · have hDel := Lib.hid (Delete_in hr (i := k) (j := k + 1) (by omega) (by omega))
        have hne := hq.ne g rfl
        have HB := Lib.hid hq.blk
        clear hq hr
        rw [Nat.add_sub_cancel_left] at hDel
        obtain ⟨n, hn⟩ : ∃ n, L.length = n := ⟨_, rfl⟩
        rw [hn] at hDel hc HB hp hl
        have HN := Lib.hid hn
        clear hn
        go_wp2_with fail
        rw [HK1.out]
        refine hDel.out.mono ?_
        rintro e w2 ⟨rfl, hr2, k2⟩
        have hb2 := HB.out.keeps k2 (by simpa using hne)
        have hc2 := hb2.cellAt 1 _ rfl
        have hf2 := hb2.frozen 1
        have hb3 := hb2.put 1 (.slice (some ⟨g, 0, none⟩) (n - 1) cap)
        have hlen : M.length = n - 1 := by have := HL.out; have := HN.out; omega
        have K3 : Keeps [b, g] w (w2.setCell ⟨b, 1, none⟩ (.slice (some ⟨g, 0, none⟩) (n - 1) cap)) := ((k1.mono (by simp)).trans (k2.mono (by simp))).setCell (.inl (by simp)) _
        have hr3 : RowE (w2.setCell ⟨b, 1, none⟩ (.slice (some ⟨g, 0, none⟩) (n - 1) cap)) g cap M := by
          rw [HD.out]
          exact hr2.keeps ((Keeps.refl [b] w2).setCell (p := ⟨b, 1, none⟩) (.inl (by simp)) _) (by simpa using fun e => hne e.symm)
        have hq3 : IsQ (w2.setCell ⟨b, 1, none⟩ (.slice (some ⟨g, 0, none⟩) (n - 1) cap)) b (.slice (some ⟨g, 0, none⟩) M.length cap) M := ⟨by rw [hlen]; exact hb3, .inr ⟨g, cap, rfl, Nat.zero_le _, hr3⟩⟩
        have hMl : M.length ≤ 255 := by omega
        have HQ3 := Lib.hid hq3
        have HK3 := Lib.hid K3
        have HOB := Lib.hid (show ∀ x, (Value.slice (some ⟨g, 0, none⟩) M.length cap).ownBlock = some x → x ∈ [g] from fun x hx => by cases hx; simp)
        have hsz : (w2.setCell ⟨b, 1, none⟩ (.slice (some ⟨g, 0, none⟩) (n - 1) cap)).heap.size = w2.heap.size := by simp
        clear hb3 hr2 hr3 K3 hlen hq3 hb2
        go_wp2_with fail
        clear hc2 hf2
        generalize w2.setCell ⟨b, 1, none⟩ (.slice (some ⟨g, 0, none⟩) (n - 1) cap) = W at *
        rw [← hsz]
        have hsw : w.heap.size ≤ W.heap.size := HK3.out.size
        generalize (some (⟨g, 0, none⟩ : Addr)) = a0 at HQ3 HOB
        replace HOB := Lib.hid (fun x (hx : a0.map (·.block) = some x) => HOB.out x (by cases a0 with | none => cases hx | some y => exact hx))
        generalize hc0 : cap = c0 at HQ3
        clear hsz hc0
        have bX := Blk.new W 61 #[.int .i64 id, .int .i64 a]
        have kX := (Keeps.refl [] W).alloc (.cells #[.int .i64 id, .int .i64 a] 61)
        have hqX := HQ3.out.keep0 kX
        have hbX : b ≠ W.heap.size := by have := HQ3.out.lt.1; omega
        have hvX : ∀ x, (Value.slice a0 M.length c0).ownBlock = some x → W.heap.size ≠ x := fun x hx => by have := HQ3.out.lt.2 x hx; omega
        have HKX := Lib.hid (HK3.out.trans (kX.mono (by simp)))
        clear kX
        generalize W.alloc (.cells #[.int .i64 id, .int .i64 a] 61) = V at *
        generalize W.heap.size = X at *
        have HIE := Lib.hid (insE_eq HGM.out.sorted (id, a))
        have HGI := Lib.hid (HGM.out.insE (id, a) HIM.out)
        have HLI := Lib.hid (show (insE (id, a) M).length ≤ 256 by rw [(insE_perm HGM.out.sorted _).length_eq, List.length_cons]; omega)
        have hple := posE_le M (id, a)
        have hS := Lib.hid (Search_in (x := (id, a)) (p := posE M (id, a)) (hqX.keep0 (Keeps.refl [] V).drew).own (by omega) hple (fun j hj => posE_lt HGM.out.sorted _ hj) (fun j h1 h2 => posE_ge HGM.out.sorted _ h1 h2))
        generalize posE M (id, a) = p at *
        have hne := hqX.ne
        have HQX := Lib.hid hqX
        have HBX := Lib.hid bX
        have HCL := Lib.hid (fun w5 (k5 : Keeps [] V.drew w5) => show w5.cell? ⟨b, 1, none⟩ = some (.slice a0 M.length c0) ∧ w5.cell? ⟨X, 0, none⟩ = some (.int .i64 id) ∧ w5.cell? ⟨X, 1, none⟩ = some (.int .i64 a) from
          ⟨((HQX.out.keep0 (Keeps.refl [] V).drew).keep0 k5).blk.cellAt 1 _ rfl, (HBX.out.drew.keeps k5 (by simp)).cellAt 0 _ rfl, (HBX.out.drew.keeps k5 (by simp)).cellAt 1 _ rfl⟩)
        have cb := hqX.blk.cellAt 1 _ rfl
        have x0 := bX.cellAt 0 _ rfl
        have x1 := bX.cellAt 1 _ rfl
        clear hqX bX
        go_region_held3 (fun w' => w'.cell? ⟨b, 1, none⟩ = some (.slice a0 M.length c0) ∧ w'.cell? ⟨X, 0, none⟩ = some (.int .i64 id) ∧ w'.cell? ⟨X, 1, none⟩ = some (.int .i64 a))
          (first | exact ⟨cb, x0, x1⟩ | exact HCL.out _ k5 | assumption | go_keep)
          ((go_at_call 35; refine hS.out.mono ?_; rintro e w5 ⟨⟨t, rfl⟩, k5⟩; obtain ⟨d0, d1, d2⟩ := HCL.out _ k5))
        have kV := (Keeps.refl [] V).drew.trans k5
        have hq5 := HQX.out.keep0 kV
        have bX5 := HBX.out.keeps kV (by simp)
        have hX5 := hq5.lt
        have kA := ((Keeps.refl [] w5).alloc (.cells #[.int .i64 id, .int .i64 a] 61)).drew
        have hI := Lib.hid (Insert_in (x := (id, a)) (k := p) (hq5.keep0 kA).own (show Blk (w5.alloc (.cells #[.int .i64 id, .int .i64 a] 61)).drew w5.heap.size 61 #[.int .i64 id, .int .i64 a] from Blk.new w5 61 _) (fun y hy => by have := hX5.2 y hy; omega) (by omega) (by omega))
        have HK5 := Lib.hid (HKX.out.trans ((kV.trans kA).mono (by simp)))
        have HQ5 := Lib.hid (hq5.keep0 kA)
        have HCL2 := Lib.hid (fun w6 (k6 : Keeps [] w5 w6) => show w6.cell? ⟨b, 1, none⟩ = some (.slice a0 M.length c0) ∧ w6.frozen? ⟨b, 1, none⟩ = false ∧ w6.cell? ⟨X, 0, none⟩ = some (.int .i64 id) ∧ w6.cell? ⟨X, 1, none⟩ = some (.int .i64 a) from
          ⟨(hq5.keep0 k6).blk.cellAt 1 _ rfl, (hq5.keep0 k6).blk.frozen 1, (bX5.keeps k6 (by simp)).cellAt 0 _ rfl, (bX5.keeps k6 (by simp)).cellAt 1 _ rfl⟩)
        have HBX5 := Lib.hid (bX5.keeps kA (by simp))
        have f5 := hq5.blk.frozen 1
        have f5d : w5.drew.frozen? ⟨b, 1, none⟩ = false := f5
        have zA : w.heap.size ≤ (w5.alloc (.cells #[.int .i64 id, .int .i64 a] 61)).drew.heap.size := HK5.out.size
        obtain ⟨g0, g1, g2, g3⟩ := HCL2.out _ ((Keeps.refl [] w5).alloc (.cells #[.int .i64 id, .int .i64 a] 61))
        clear k5 kV hq5 bX5 hX5 kA cb x0 x1
        go_wp2_with fail
        go_region_law ((go_simp; go_at_call 40; refine hI.out.mono ?_; rintro e w6 ⟨v6, rfl, i1, i2, i3⟩; have hb6 := HQ5.out.blk.keeps i2 (fun hx => hne b (by simpa using hx) rfl); have c1 := hb6.cellAt 1 _ rfl; have c2 := hb6.frozen 1; obtain ⟨a6, c6, rfl⟩ := i1.shape; obtain ⟨m6, hm6⟩ : ∃ m6, (M.take p ++ (id, a) :: M.drop p).length = m6 := ⟨_, rfl⟩; rw [hm6] at i1 i3 ⊢; rw [← HIE.out] at i1 hm6; have HM6 := Lib.hid hm6; clear hm6))
        all_goals
          have hm6 := HM6.out
          have hb7 := hb6.put 1 (.slice a6 m6 c6)
          have hnb : ∀ x, (Value.slice a6 m6 c6).ownBlock = some x → x ≠ b := fun x hx => by
            rcases i3 x hx with h | h
            · exact fun e => hne x h e.symm
            · have := HQ5.out.lt.1; omega
          have k7 := (Keeps.refl [b] w6).setCell (p := ⟨b, 1, none⟩) (.inl (by simp)) (.slice a6 m6 c6)
          have i7 := i1.keeps k7 (fun x hx => by simpa using hnb x hx)
          have hOO : ∀ x, (Value.slice a0 M.length c0).ownBlock = some x → x ∈ _ := fun x hx => HOB.out x (by cases a0 with | none => cases hx | some y => exact hx)
          have K7 := (HK5.out.trans (i2.mono (fun x hx => List.mem_cons_of_mem _ (hOO x (by simpa using hx))))).trans (k7.mono (fun x hx => by simp at hx; simp [hx]))
          have HF := Lib.hid (show Turned w (w6.setCell ⟨b, 1, none⟩ (.slice a6 m6 c6)) b (b :: _) (insE (id, a) M) from ⟨_, ⟨_, ⟨hb7, i7⟩, rfl, HGI.out, HLI.out⟩, K7, fun x hx => by
            rcases List.mem_cons.1 hx with rfl | hx
            · exact .inl (by simp)
            · rcases i3 x (by simpa using hx) with h | h
              · exact .inl (List.mem_cons_of_mem _ (hOO x h))
              · exact .inr (Nat.le_trans zA h)⟩)
          clear hm6 hb7 hnb k7 i7 K7 hb6 i1 i2 i3 hOO
          go_wp2_with fail
          go_ret
          exact ⟨rfl, HF.out⟩
    · have hn0 := dropE_none hp
      by_cases hf : 256 ≤ L.length
      · have he : setErr L id a = 4 := by unfold setErr; rw [if_neg ha, if_pos ⟨hp, hf⟩]
        have hL : setL L id a = L := by unfold setL; rw [he, if_neg (by decide)]
        rw [he, hL]
        rw [if_neg hp] at hF
        clear he hL ha hg hn0
        have hc := hq.blk
        have HB := Lib.hid hc
        obtain ⟨a0, c0, rfl⟩ := hq.own.shape
        clear hq hc
        go_enter Try.func16, Try.ntmps16
        go_wp2_with fail
        refine hF.out.mono ?_
        rintro e w1 ⟨rfl, k1⟩
        go_wp2_with fail
        refine (HV.out _ k1).mono ?_
        rintro e w' ⟨rfl, rfl⟩
        have hc := (HB.out.keeps k1 (by simp)).cellAt 1 _ rfl
        go_wp2_with fail
        go_ret
        exact ⟨rfl, HQ.out.same k1⟩
      · have he : setErr L id a = 0 := by unfold setErr; rw [if_neg ha, if_neg (by simp; omega)]
        have hL : setL L id a = insE (id, a) L := by unfold setL; rw [he, if_pos rfl]; show insE (id, a) (dropE L id) = _; rw [hn0]
        rw [he, hL]
        rw [if_neg hp] at hF
        have HIM := Lib.hid (fun (e : Int × Int) (he : e ∈ L) (h : e.1 = id) => hp (place_lt.2 ⟨e, he, h⟩))
        clear he hL ha hg hn0
        have hc := hq.blk
        have HB := Lib.hid hc
        obtain ⟨a0, c0, rfl⟩ := hq.own.shape
        clear hq hc
        have hMl : L.length ≤ 255 := by omega
        go_enter Try.func16, Try.ntmps16
        go_wp2_with fail
        refine hF.out.mono ?_
        rintro e W ⟨rfl, k1⟩
        go_wp2_with fail
        refine (HV.out _ k1).mono ?_
        rintro e w' ⟨rfl, rfl⟩
        have hc := (HB.out.keeps k1 (by simp)).cellAt 1 _ rfl
        have HQ3 := Lib.hid (HQ0.out.keep0 k1)
        have HK3 := Lib.hid (show Keeps (b :: (Value.slice a0 L.length c0).ownBlock.toList) w W from k1.mono (by simp))
        have HGM := HG
        have HOB := Lib.hid (show ∀ x, (Value.slice a0 L.length c0).ownBlock = some x → x ∈ (Value.slice a0 L.length c0).ownBlock.toList from fun x hx => by rw [hx]; simp)
        go_wp2_with fail
        clear hc
        have hsw : w.heap.size ≤ W.heap.size := HK3.out.size
        replace HOB := Lib.hid (fun x (hx : a0.map (·.block) = some x) => HOB.out x (by cases a0 with | none => cases hx | some y => exact hx))
        have bX := Blk.new W 61 #[.int .i64 id, .int .i64 a]
        have kX := (Keeps.refl [] W).alloc (.cells #[.int .i64 id, .int .i64 a] 61)
        have hqX := HQ3.out.keep0 kX
        have hbX : b ≠ W.heap.size := by have := HQ3.out.lt.1; omega
        have hvX : ∀ x, (Value.slice a0 L.length c0).ownBlock = some x → W.heap.size ≠ x := fun x hx => by have := HQ3.out.lt.2 x hx; omega
        have HKX := Lib.hid (HK3.out.trans (kX.mono (by simp)))
        clear kX
        generalize W.alloc (.cells #[.int .i64 id, .int .i64 a] 61) = V at *
        generalize W.heap.size = X at *
        have HIE := Lib.hid (insE_eq HGM.out.sorted (id, a))
        have HGI := Lib.hid (HGM.out.insE (id, a) HIM.out)
        have HLI := Lib.hid (show (insE (id, a) L).length ≤ 256 by rw [(insE_perm HGM.out.sorted _).length_eq, List.length_cons]; omega)
        have hple := posE_le L (id, a)
        have hS := Lib.hid (Search_in (x := (id, a)) (p := posE L (id, a)) (hqX.keep0 (Keeps.refl [] V).drew).own (by omega) hple (fun j hj => posE_lt HGM.out.sorted _ hj) (fun j h1 h2 => posE_ge HGM.out.sorted _ h1 h2))
        generalize posE L (id, a) = p at *
        have hne := hqX.ne
        have HQX := Lib.hid hqX
        have HBX := Lib.hid bX
        have HCL := Lib.hid (fun w5 (k5 : Keeps [] V.drew w5) => show w5.cell? ⟨b, 1, none⟩ = some (.slice a0 L.length c0) ∧ w5.cell? ⟨X, 0, none⟩ = some (.int .i64 id) ∧ w5.cell? ⟨X, 1, none⟩ = some (.int .i64 a) from
          ⟨((HQX.out.keep0 (Keeps.refl [] V).drew).keep0 k5).blk.cellAt 1 _ rfl, (HBX.out.drew.keeps k5 (by simp)).cellAt 0 _ rfl, (HBX.out.drew.keeps k5 (by simp)).cellAt 1 _ rfl⟩)
        have cb := hqX.blk.cellAt 1 _ rfl
        have x0 := bX.cellAt 0 _ rfl
        have x1 := bX.cellAt 1 _ rfl
        clear hqX bX
        go_region_held3 (fun w' => w'.cell? ⟨b, 1, none⟩ = some (.slice a0 L.length c0) ∧ w'.cell? ⟨X, 0, none⟩ = some (.int .i64 id) ∧ w'.cell? ⟨X, 1, none⟩ = some (.int .i64 a))
          (first | exact ⟨cb, x0, x1⟩ | exact HCL.out _ k5 | assumption | go_keep)
          ((go_at_call 35; refine hS.out.mono ?_; rintro e w5 ⟨⟨t, rfl⟩, k5⟩; obtain ⟨d0, d1, d2⟩ := HCL.out _ k5))
        have kV := (Keeps.refl [] V).drew.trans k5
        have hq5 := HQX.out.keep0 kV
        have bX5 := HBX.out.keeps kV (by simp)
        have hX5 := hq5.lt
        have kA := ((Keeps.refl [] w5).alloc (.cells #[.int .i64 id, .int .i64 a] 61)).drew
        have hI := Lib.hid (Insert_in (x := (id, a)) (k := p) (hq5.keep0 kA).own (show Blk (w5.alloc (.cells #[.int .i64 id, .int .i64 a] 61)).drew w5.heap.size 61 #[.int .i64 id, .int .i64 a] from Blk.new w5 61 _) (fun y hy => by have := hX5.2 y hy; omega) (by omega) (by omega))
        have HK5 := Lib.hid (HKX.out.trans ((kV.trans kA).mono (by simp)))
        have HQ5 := Lib.hid (hq5.keep0 kA)
        have HCL2 := Lib.hid (fun w6 (k6 : Keeps [] w5 w6) => show w6.cell? ⟨b, 1, none⟩ = some (.slice a0 L.length c0) ∧ w6.frozen? ⟨b, 1, none⟩ = false ∧ w6.cell? ⟨X, 0, none⟩ = some (.int .i64 id) ∧ w6.cell? ⟨X, 1, none⟩ = some (.int .i64 a) from
          ⟨(hq5.keep0 k6).blk.cellAt 1 _ rfl, (hq5.keep0 k6).blk.frozen 1, (bX5.keeps k6 (by simp)).cellAt 0 _ rfl, (bX5.keeps k6 (by simp)).cellAt 1 _ rfl⟩)
        have HBX5 := Lib.hid (bX5.keeps kA (by simp))
        have f5 := hq5.blk.frozen 1
        have f5d : w5.drew.frozen? ⟨b, 1, none⟩ = false := f5
        have zA : w.heap.size ≤ (w5.alloc (.cells #[.int .i64 id, .int .i64 a] 61)).drew.heap.size := HK5.out.size
        obtain ⟨g0, g1, g2, g3⟩ := HCL2.out _ ((Keeps.refl [] w5).alloc (.cells #[.int .i64 id, .int .i64 a] 61))
        clear k5 kV hq5 bX5 hX5 kA cb x0 x1
        go_wp2_with fail
        go_region_law ((go_simp; go_at_call 40; refine hI.out.mono ?_; rintro e w6 ⟨v6, rfl, i1, i2, i3⟩; have hb6 := HQ5.out.blk.keeps i2 (fun hx => hne b (by simpa using hx) rfl); have c1 := hb6.cellAt 1 _ rfl; have c2 := hb6.frozen 1; obtain ⟨a6, c6, rfl⟩ := i1.shape; obtain ⟨m6, hm6⟩ : ∃ m6, (L.take p ++ (id, a) :: L.drop p).length = m6 := ⟨_, rfl⟩; rw [hm6] at i1 i3 ⊢; rw [← HIE.out] at i1 hm6; have HM6 := Lib.hid hm6; clear hm6))
        all_goals
          have hm6 := HM6.out
          have hb7 := hb6.put 1 (.slice a6 m6 c6)
          have hnb : ∀ x, (Value.slice a6 m6 c6).ownBlock = some x → x ≠ b := fun x hx => by
            rcases i3 x hx with h | h
            · exact fun e => hne x h e.symm
            · have := HQ5.out.lt.1; omega
          have k7 := (Keeps.refl [b] w6).setCell (p := ⟨b, 1, none⟩) (.inl (by simp)) (.slice a6 m6 c6)
          have i7 := i1.keeps k7 (fun x hx => by simpa using hnb x hx)
          have hOO : ∀ x, (Value.slice a0 L.length c0).ownBlock = some x → x ∈ _ := fun x hx => HOB.out x (by cases a0 with | none => cases hx | some y => exact hx)
          have K7 := (HK5.out.trans (i2.mono (fun x hx => List.mem_cons_of_mem _ (hOO x (by simpa using hx))))).trans (k7.mono (fun x hx => by simp at hx; simp [hx]))
          have HF := Lib.hid (show Turned w (w6.setCell ⟨b, 1, none⟩ (.slice a6 m6 c6)) b (b :: _) (insE (id, a) L) from ⟨_, ⟨_, ⟨hb7, i7⟩, rfl, HGI.out, HLI.out⟩, K7, fun x hx => by
            rcases List.mem_cons.1 hx with rfl | hx
            · exact .inl (by simp)
            · rcases i3 x (by simpa using hx) with h | h
              · exact .inl (List.mem_cons_of_mem _ (hOO x h))
              · exact .inr (Nat.le_trans zA h)⟩)
          clear hm6 hb7 hnb k7 i7 K7 hb6 i1 i2 i3 hOO
          go_wp2_with fail
          go_ret
          exact ⟨rfl, HF.out⟩
end Go.Proofs.Ytognnjaefaoefaa
