/- BitsPlays: for every input the call returns true, and nothing that was there has changed. Condition: the table of trailing zeros lies in its block. Printed by gen-plays3.py. -/
import Derived.Test.YtcdnflffpeijfaaDoorShows
import Derived.Test.YtcdnflffpeijfaaDoorPairs
import Derived.Deep.RegionHeld3
namespace Go.Proofs.YtcdnflffpeijfaaDoor
open Go.RowKit
set_option linter.unusedVariables false

theorem ArgP.shape {k0 k1 : IntKind} {w : World} {v : Value} {ms : List (Int × Int)} (h : ArgP k0 k1 w v ms) : ∃ a cap, v = .slice a ms.length cap := by
  rcases h.2 with ⟨rfl, a, cap, rfl⟩ | ⟨b, off, cap, rfl, _⟩
  · exact ⟨a, cap, rfl⟩
  · exact ⟨_, cap, rfl⟩
theorem ArgP.some_ {k0 k1 : IntKind} {w : World} {a : Option Addr} {cap : Nat} {ms : List (Int × Int)} (h : ArgP k0 k1 w (.slice a ms.length cap) ms) {i : Nat} (hi : i < ms.length) : ∃ b off, a = some ⟨b, off, none⟩ ∧ b < w.heap.size ∧ ms.length ≤ cap ∧ cap ≤ maxLen ∧ ∀ i, i < ms.length → w.cell? ⟨b, off + i * 2, none⟩ = some (.int k0 (ms.getD i (0, 0)).1) ∧ w.cell? ⟨b, off + i * 2 + 1, none⟩ = some (.int k1 (ms.getD i (0, 0)).2) := by
  rcases h.2 with ⟨rfl, _⟩ | ⟨b, off, cap', he, h1, h2, h3, _, h5⟩
  · simp at hi
  · injection he with e1 e2 e3
    exact ⟨b, off, e1, h3, by omega, by omega, h5⟩
abbrev BI := BoxIt It
theorem biFrame : Frame BI := boxFrame itFrame
abbrev Th := (Bool × Option Addr × St) ⊕ (Nat × TypeId × Array Value)
/-- The sets4 sets. -/
abbrev sets4 (sp rp tp qp : Option Addr) (m1 m2 m3 m4 : St) : List Th := [.inl (true, sp, m1), .inl (false, rp, m2), .inl (true, tp, m3), .inl (false, qp, m4)]

/-- The four sets, and a block. -/
abbrev sets5 (sp rp tp qp : Option Addr) (m1 m2 m3 m4 : St) (X : Nat) (cs : Array Value) : List Th := [.inl (true, sp, m1), .inl (false, rp, m2), .inl (true, tp, m3), .inl (false, qp, m4), .inr (X, 51, cs)]

/-- The six sets, and a block. -/
abbrev sets7 (sp rp tp qp op wp : Option Addr) (m1 m2 m3 m5 : St) (X : Nat) (cs : Array Value) : List Th := [.inl (true, sp, m1), .inl (false, rp, m2), .inl (true, tp, m3), .inl (false, qp, m3), .inl (true, op, m5), .inl (false, wp, m5), .inr (X, 51, cs)]
abbrev sets6 (sp rp tp qp op wp : Option Addr) (m1 m3 m5 : St) : List Th := [.inl (true, sp, m1), .inl (false, rp, m1), .inl (true, tp, m3), .inl (false, qp, m3), .inl (true, op, m5), .inl (false, wp, m5)]
theorem pick_four {w0 w : World} {a0 a1 a2 a3 a4 : Th} (h : All BI w0 w [a0, a1, a2, a3, a4]) : All BI w0 w [a0, a1, a2, a3] :=
  h.pick biFrame _ (fun k => k) (by
    intro j jt hj
    match j, hj with
    | 0, hj => exact ⟨0, hj, rfl⟩
    | 1, hj => exact ⟨1, hj, rfl⟩
    | 2, hj => exact ⟨2, hj, rfl⟩
    | 3, hj => exact ⟨3, hj, rfl⟩
    | j + 4, hj => simp at hj) (fun k hk => by simp at hk ⊢; omega)
theorem pick_six {w0 w : World} {a0 a1 a2 a3 a4 a5 a6 : Th} (h : All BI w0 w [a0, a1, a2, a3, a4, a5, a6]) : All BI w0 w [a0, a1, a2, a3, a4, a5] :=
  h.pick biFrame _ (fun k => k) (by
    intro j jt hj
    match j, hj with
    | 0, hj => exact ⟨0, hj, rfl⟩
    | 1, hj => exact ⟨1, hj, rfl⟩
    | 2, hj => exact ⟨2, hj, rfl⟩
    | 3, hj => exact ⟨3, hj, rfl⟩
    | 4, hj => exact ⟨4, hj, rfl⟩
    | 5, hj => exact ⟨5, hj, rfl⟩
    | j + 6, hj => simp at hj) (fun k hk => by simp at hk ⊢; omega)
theorem pick_copy {w0 w : World} {a0 a1 a2 a3 a4 a5 a6 a7 a8 : Th} (h : All BI w0 w [a0, a1, a2, a3, a4, a5, a6, a7, a8]) : All BI w0 w [a7, a8, a2, a3, a0, a1, a6] :=
  h.pick biFrame _ (fun k => [4, 5, 2, 3, 100, 100, 6, 0, 1].getD k 100) (by
    intro j jt hj
    match j, hj with
    | 0, hj => exact ⟨7, hj, rfl⟩
    | 1, hj => exact ⟨8, hj, rfl⟩
    | 2, hj => exact ⟨2, hj, rfl⟩
    | 3, hj => exact ⟨3, hj, rfl⟩
    | 4, hj => exact ⟨0, hj, rfl⟩
    | 5, hj => exact ⟨1, hj, rfl⟩
    | 6, hj => exact ⟨6, hj, rfl⟩
    | j + 7, hj => simp at hj) (fun k hk => by
      by_cases h : k < 9
      · exact h
      · rw [List.getD_eq_getElem?_getD, List.getElem?_eq_none (by simp; omega)] at hk
        simp at hk)
theorem show_two {w0 w : World} {its : List Th} (h : All BI w0 w its) (hT : Table w0) (j k : Nat) {p q : Option Addr} {m : St} (hj : its[j]? = some (.inl (true, p, m))) (hk : its[k]? = some (.inl (false, q, m))) {i : Int} (hi : i ≤ 9223372036854775807) :
    Calls Tryd.prog 34 #[.pointer p, .pointer q, .int .i64 i] w fun e w' => e = .returned (.bool true) ∧ All BI w0 w' its := by
  obtain ⟨C, hC⟩ := h.get hj
  obtain ⟨D, hD⟩ := h.get hk
  refine (shows_ok (C := C) (D := D) hC hD (hT.keeps h.keeps hT.pos (by simp)) i hi).mono ?_
  rintro e w' ⟨he, hk⟩
  exact ⟨he, h.keep0 biFrame hk⟩

set_option maxRecDepth 1000000 in
set_option maxHeartbeats 4000000 in
theorem plays_some (s o : Int) {v u : Value} {ls ms : List (Int × Int)} {w : World} (hv : ArgP .u8 .i64 w v ls) (hu : ArgP .u8 .i64 w u ms) (hl : ls.length ≤ 60) (hm : ms.length ≤ 60) (hT : Table w) :
    Calls Tryd.prog 8 #[.int .i64 s, .int .i64 o, v, u] w fun e w' => e = .returned (.bool true) ∧ Below w.heap.size w w' := by
  have hpos := hT.pos
  have HT := Lib.hid hT
  have HV := Lib.hid hv
  have HU := Lib.hid hu
  obtain ⟨a0, cap0, rfl⟩ := hv.shape
  obtain ⟨a1, cap1, rfl⟩ := hu.shape
  clear hv hu hT
  obtain ⟨l, hll⟩ : ∃ l, ls.length = l := ⟨_, rfl⟩
  have HLl := Lib.hid hll
  obtain ⟨m, hmm⟩ : ∃ m, ms.length = m := ⟨_, rfl⟩
  have HMm := Lib.hid hmm
  rw [hll] at hl ⊢
  rw [hmm] at hm ⊢
  have N1 := Lib.hid (new_b s)
  have N2 := Lib.hid (new_r s)
  have N3 := Lib.hid (new_b o)
  have N4 := Lib.hid (new_r o)
  obtain ⟨x1, hx1⟩ : ∃ x, newErr s = x := ⟨_, rfl⟩
  obtain ⟨x2, hx2⟩ : ∃ x, newErr o = x := ⟨_, rfl⟩
  obtain ⟨m1, hm1⟩ : ∃ x, newSt s = x := ⟨_, rfl⟩
  obtain ⟨m2, hm2⟩ : ∃ x, newSt o = x := ⟨_, rfl⟩
  simp only [hx1, hm1] at N1 N2
  simp only [hx2, hm2] at N3 N4
  clear hll hmm hx1 hx2 hm1 hm2
  go_enter Tryd.func8, Tryd.ntmps8
  go_wp2_with fail
  refine (N1.out _).mono ?_
  rintro e w1 ⟨sp, rfl, hsp, k1, i1⟩
  have A1 := (All.none (It := BI) w).push biFrame k1 (show BI w1 (.inl (true, sp, m1)) _ from i1)
  clear k1 i1
  go_wp2_with fail
  refine (N2.out _).mono ?_
  rintro e w2 ⟨rp, rfl, hrp, k2, i2⟩
  have A2 := A1.push biFrame k2 (show BI w2 (.inl (false, rp, m1)) _ from i2)
  clear k2 i2 A1
  go_wp2_with fail
  refine (N3.out _).mono ?_
  rintro e w3 ⟨tp, rfl, htp, k3, i3⟩
  have A3 := A2.push biFrame k3 (show BI w3 (.inl (true, tp, m2)) _ from i3)
  clear k3 i3 A2
  go_wp2_with fail
  refine (N4.out _).mono ?_
  rintro e w4 ⟨qp, rfl, hqp, k4, i4⟩
  have A4 : All BI w w4 (sets4 sp rp tp qp m1 m1 m2 m2) := A3.push biFrame k4 (show BI w4 (.inl (false, qp, m2)) _ from i4)
  clear k4 i4 A3 N1 N2 N3 N4
  have b1 : sp.isNone = rp.isNone := by
    cases m1 with
    | none => rw [hsp.2 rfl, hrp.2 rfl]
    | some x =>
      cases sp with
      | none => have := hsp.1 rfl; simp at this
      | some y =>
        cases rp with
        | none => have := hrp.1 rfl; simp at this
        | some y => rfl
  have b3 : tp.isNone = qp.isNone := by
    cases m2 with
    | none => rw [htp.2 rfl, hqp.2 rfl]
    | some x =>
      cases tp with
      | none => have := htp.1 rfl; simp at this
      | some y =>
        cases qp with
        | none => have := hqp.1 rfl; simp at this
        | some y => rfl
  have HA := Lib.hid A4
  have HTP := Lib.hid htp
  clear A4 hsp hrp htp hqp
  go_wp2_with fail
  clear b1 b3
  go_loopw [78] (fun i wr => ∃ (k : Nat) (m3 : St), i = .int .i64 k ∧ k ≤ m ∧ All BI w wr (sets4 sp rp tp qp m1 m1 m3 m3)) (fun i _ => m - (intOf i).toNat)
  case atStart => exact ⟨0, m2, rfl, Nat.zero_le _, HA.out⟩
  case round =>
    clear HA
    obtain ⟨k, m3, rfl, hk, A⟩ := hrel
    by_cases hkm : k < m
    · have hkI : (k : Int) < (m : Int) := by omega
      obtain ⟨g, off, rfl, hg, hlc, hcm, hcl⟩ := ArgP.some_ (a := a1) (cap := cap1) (by have := HU.out; rw [HMm.out] at this; rw [HMm.out]; exact this) (i := k) (by have := HMm.out; omega)
      have hc2 := hcl k (by have := HMm.out; omega)
      have c0 := (A.keeps.cell (p := ⟨g, off + k * 2, none⟩) hg (by simp)).trans hc2.1
      have c1 := (A.keeps.cell (p := ⟨g, off + k * 2 + 1, none⟩) hg (by simp)).trans hc2.2
      have hw := HU.out.1 _ (getD_mem ms (0, 0) k (by have := HMm.out; omega))
      have hd := Go.bounds_u8 hw.1
      have hx := Go.bounds_i64 hw.2
      clear hcl hc2 hw
      obtain ⟨d, hdd⟩ : ∃ d, (ms.getD k (0, 0)).1 = d := ⟨_, rfl⟩
      obtain ⟨x, hxx⟩ : ∃ x, (ms.getD k (0, 0)).2 = x := ⟨_, rfl⟩
      rw [hdd] at c0 hd
      rw [hxx] at c1 hx
      clear hdd hxx
      have AX := A.alloc itFrame 51 #[.int .u8 d, .int .i64 x]
      have hAX := Lib.hid AX
      clear A AX
      cases tp with
      | none =>
        go_wp2_with fail
        clear c0 c1
        generalize wr.heap.size = X at *
        generalize wr.alloc (.cells #[.int .u8 d, .int .i64 x] 51) = V at *
        have cX := (hAX.out.box (k := 4) rfl).cellAt 1 _ rfl
        go_quiet (fail)
        go_wp2_with fail
        go_roundw
        case rel => exact ⟨k + 1, m3, by go_num, by omega, pick_four (hAX.out.keep0 biFrame ((Keeps.refl [] V).drewN _))⟩
        case measure => simp [intOf] <;> omega
      | some y =>
        go_wp2_with fail
        clear c0 c1
        generalize wr.heap.size = X at *
        generalize wr.alloc (.cells #[.int .u8 d, .int .i64 x] 51) = V at *
        have cX := (hAX.out.box (k := 4) rfl).cellAt 1 _ rfl
        obtain ⟨ex, hex⟩ : ∃ e, chgErr m3 x = e := ⟨_, rfl⟩
        obtain ⟨m4, hm4⟩ : ∃ e, chgSt withP m3 x = e := ⟨_, rfl⟩
        have H16 := Lib.hid (fun W q4 (h : All BI w W (sets5 sp rp (some y) qp m1 m1 m3 q4 X #[.int .u8 d, .int .i64 x])) => show Calls Tryd.prog 16 #[.pointer (some y), .int .i64 x] W (fun e w' => e = .returned (.int .i64 (chgErr m3 x)) ∧ All BI w w' (sets5 sp rp (some y) qp m1 m1 (chgSt withP m3 x) q4 X #[.int .u8 d, .int .i64 x])) from h.callI itFrame 2 rfl (fun C hC => add_b hC x))
        have H28 := Lib.hid (fun W q3 (h : All BI w W (sets5 sp rp (some y) qp m1 m1 q3 m3 X #[.int .u8 d, .int .i64 x])) => show Calls Tryd.prog 28 #[.pointer qp, .int .i64 x] W (fun e w' => e = .returned (.int .i64 (chgErr m3 x)) ∧ All BI w w' (sets5 sp rp (some y) qp m1 m1 q3 (chgSt withP m3 x) X #[.int .u8 d, .int .i64 x])) from h.callI itFrame 3 rfl (fun C hC => add_r hC x))
        simp only [hex, hm4] at H16 H28
        have hA5 : Hid (All BI w V (sets5 sp rp (some y) qp m1 m1 m3 m3 X #[.int .u8 d, .int .i64 x])) := hAX
        clear hAX hex hm4
        go_region_held3 (fun w' => w'.cell? ⟨X, 1, none⟩ = some (.int .i64 x))
          (first | exact cX | exact c16 | exact c28 | assumption | go_keep)
          ((first
            | (go_at_call 16; refine (H16.out _ _ (by first | exact a28 | exact a28.dr biFrame | exact hA5.out | exact hA5.out.dr biFrame)).mono ?_; rintro e w16 ⟨rfl, a16⟩; have c16 := (a16.box (k := 4) rfl).cellAt 1 _ rfl)
            | (go_at_call 28; refine (H28.out _ _ (by first | exact a16 | exact a16.dr biFrame | exact hA5.out | exact hA5.out.dr biFrame)).mono ?_; rintro e w28 ⟨rfl, a28⟩; have c28 := (a28.box (k := 4) rfl).cellAt 1 _ rfl)))
        go_wp2_with fail
        clear c16 c28
        go_roundw
        case rel => exact ⟨k + 1, m4, by go_num, by omega, pick_four a28⟩
        case measure => simp [intOf] <;> omega
    · have hkI : ¬ (k : Int) < (m : Int) := by omega
      have HA := Lib.hid (show All BI w wr (sets6 sp rp tp qp none none m1 m3 none) from (A.pushI itFrame (it := (true, none, none)) (Keeps.refl _ _) rfl).pushI itFrame (it := (false, none, none)) (Keeps.refl _ _) rfl)
      clear A HTP
      go_wp2_with fail
      go_loopw [9, 11, 19, 20, 98] (fun ps pr po pw i wr => ∃ (k : Nat) (sp rp op wp : Option Addr) (n1 n3 : St), ps = .pointer sp ∧ pr = .pointer rp ∧ po = .pointer op ∧ pw = .pointer wp ∧ i = .int .i64 k ∧ k ≤ l ∧ All BI w wr (sets6 sp rp tp qp op wp n1 m3 n3)) (fun _ _ _ _ i _ => l - (intOf i).toNat)
      case atStart => exact ⟨0, sp, rp, none, none, m1, none, rfl, rfl, rfl, rfl, rfl, Nat.zero_le _, HA.out⟩
      case round =>
        clear HA
        obtain ⟨k, sp, rp, op, wp, n1, n3, rfl, rfl, rfl, rfl, rfl, hk, A⟩ := hrel
        by_cases hkl : k < l
        · have hkI : (k : Int) < (l : Int) := by omega
          obtain ⟨g, off, rfl, hg, hlc, hcm, hcl⟩ := ArgP.some_ (a := a0) (cap := cap0) (by have := HV.out; rw [HLl.out] at this; rw [HLl.out]; exact this) (i := k) (by have := HLl.out; omega)
          have hc2 := hcl k (by have := HLl.out; omega)
          have c0 := (A.keeps.cell (p := ⟨g, off + k * 2, none⟩) hg (by simp)).trans hc2.1
          have c1 := (A.keeps.cell (p := ⟨g, off + k * 2 + 1, none⟩) hg (by simp)).trans hc2.2
          have hw := HV.out.1 _ (getD_mem ls (0, 0) k (by have := HLl.out; omega))
          have hd := Go.bounds_u8 hw.1
          have hx := Go.bounds_i64 hw.2
          clear hcl hc2 hw
          obtain ⟨d, hdd⟩ : ∃ d, (ls.getD k (0, 0)).1 = d := ⟨_, rfl⟩
          obtain ⟨x, hxx⟩ : ∃ x, (ls.getD k (0, 0)).2 = x := ⟨_, rfl⟩
          rw [hdd] at c0 hd
          rw [hxx] at c1 hx
          clear hdd hxx
          have hx2 := hx.2
          have AX := A.alloc itFrame 51 #[.int .u8 d, .int .i64 x]
          have hAX := Lib.hid AX
          clear A AX
          obtain ⟨r, hr⟩ : ∃ r, Int.tmod d 6 = r := ⟨_, rfl⟩
          have hr1 : 0 ≤ r ∧ r ≤ 5 := by
            rw [Int.tmod_eq_emod_of_nonneg hd.1] at hr
            omega
          rcases (show r = 0 ∨ r = 1 ∨ r = 2 ∨ r = 3 ∨ r = 4 ∨ r = 5 by omega) with rfl | rfl | rfl | rfl | rfl | rfl
          · go_wp2_with fail
            clear c0 c1
            generalize wr.heap.size = X at *
            generalize wr.alloc (.cells #[.int .u8 d, .int .i64 x] 51) = V at *
            have cX : V.cell? ⟨X, 1, none⟩ = some (.int .i64 x) := (hAX.out.box (k := 6) rfl).cellAt 1 _ rfl
            have HB := Lib.hid (fun W q (h : All BI w W (sets7 sp rp tp qp op wp n1 q m3 n3 X #[.int .u8 d, .int .i64 x])) => show Calls Tryd.prog 16 #[.pointer sp, .int .i64 x] W (fun e w' => e = .returned (.int .i64 (chgErr n1 x)) ∧ All BI w w' (sets7 sp rp tp qp op wp (chgSt withP n1 x) q m3 n3 X #[.int .u8 d, .int .i64 x])) from h.callI itFrame 0 rfl (fun C hC => add_b hC x))
            have HR := Lib.hid (fun W q (h : All BI w W (sets7 sp rp tp qp op wp q n1 m3 n3 X #[.int .u8 d, .int .i64 x])) => show Calls Tryd.prog 28 #[.pointer rp, .int .i64 x] W (fun e w' => e = .returned (.int .i64 (chgErr n1 x)) ∧ All BI w w' (sets7 sp rp tp qp op wp q (chgSt withP n1 x) m3 n3 X #[.int .u8 d, .int .i64 x])) from h.callI itFrame 1 rfl (fun C hC => add_r hC x))
            obtain ⟨ex, hex⟩ : ∃ e, chgErr n1 x = e := ⟨_, rfl⟩
            obtain ⟨n2, hn2⟩ : ∃ e, chgSt withP n1 x = e := ⟨_, rfl⟩
            simp only [hex, hn2] at HB HR
            have hA5 : Hid (All BI w V (sets7 sp rp tp qp op wp n1 n1 m3 n3 X #[.int .u8 d, .int .i64 x])) := hAX
            clear hAX hex hn2
            go_region_held3 (fun w' => w'.cell? ⟨X, 1, none⟩ = some (.int .i64 x))
              (first | exact cX | exact c16 | exact c28 | assumption | go_keep)
              ((first
                | (go_at_call 16; refine (HB.out _ _ (by first | exact a28 | exact a28.dr biFrame | exact hA5.out | exact hA5.out.dr biFrame)).mono ?_; rintro e w16 ⟨rfl, a16⟩; have c16 := (a16.box (k := 6) rfl).cellAt 1 _ rfl)
                | (go_at_call 28; refine (HR.out _ _ (by first | exact a16 | exact a16.dr biFrame | exact hA5.out | exact hA5.out.dr biFrame)).mono ?_; rintro e w28 ⟨rfl, a28⟩; have c28 := (a28.box (k := 6) rfl).cellAt 1 _ rfl)))
            clear c16 c28 HB HR hA5 a16
            have y1 := (a28.box (k := 6) rfl).cellAt 1 (.int .i64 x) rfl
            have S1 := Lib.hid (show_two a28 HT.out 0 1 rfl rfl hx2)
            clear a28
            go_wp2_with fail
            refine S1.out.mono ?_
            rintro e W1 ⟨rfl, A1⟩
            clear y1
            have y1 := (A1.box (k := 6) rfl).cellAt 1 (.int .i64 x) rfl
            have S2 := Lib.hid (show_two A1 HT.out 2 3 rfl rfl hx2)
            clear A1
            go_wp2_with fail
            refine S2.out.mono ?_
            rintro e W2 ⟨rfl, A2⟩
            clear y1
            have y1 := (A2.box (k := 6) rfl).cellAt 1 (.int .i64 x) rfl
            have S3 := Lib.hid (show_two A2 HT.out 4 5 rfl rfl hx2)
            clear A2
            go_wp2_with fail
            refine S3.out.mono ?_
            rintro e W3 ⟨rfl, A3⟩
            clear y1
            go_wp2_with fail
            go_roundw
            case rel => exact ⟨k + 1, sp, rp, op, wp, n2, n3, rfl, rfl, rfl, rfl, by go_num, by omega, pick_six A3⟩
            case measure => simp [intOf] <;> omega
          · go_wp2_with fail
            clear c0 c1
            generalize wr.heap.size = X at *
            generalize wr.alloc (.cells #[.int .u8 d, .int .i64 x] 51) = V at *
            have cX : V.cell? ⟨X, 1, none⟩ = some (.int .i64 x) := (hAX.out.box (k := 6) rfl).cellAt 1 _ rfl
            have HB := Lib.hid (fun W q (h : All BI w W (sets7 sp rp tp qp op wp n1 q m3 n3 X #[.int .u8 d, .int .i64 x])) => show Calls Tryd.prog 17 #[.pointer sp, .int .i64 x] W (fun e w' => e = .returned (.int .i64 (chgErr n1 x)) ∧ All BI w w' (sets7 sp rp tp qp op wp (chgSt lessP n1 x) q m3 n3 X #[.int .u8 d, .int .i64 x])) from h.callI itFrame 0 rfl (fun C hC => remove_b hC x))
            have HR := Lib.hid (fun W q (h : All BI w W (sets7 sp rp tp qp op wp q n1 m3 n3 X #[.int .u8 d, .int .i64 x])) => show Calls Tryd.prog 29 #[.pointer rp, .int .i64 x] W (fun e w' => e = .returned (.int .i64 (chgErr n1 x)) ∧ All BI w w' (sets7 sp rp tp qp op wp q (chgSt lessP n1 x) m3 n3 X #[.int .u8 d, .int .i64 x])) from h.callI itFrame 1 rfl (fun C hC => remove_r hC x))
            obtain ⟨ex, hex⟩ : ∃ e, chgErr n1 x = e := ⟨_, rfl⟩
            obtain ⟨n2, hn2⟩ : ∃ e, chgSt lessP n1 x = e := ⟨_, rfl⟩
            simp only [hex, hn2] at HB HR
            have hA5 : Hid (All BI w V (sets7 sp rp tp qp op wp n1 n1 m3 n3 X #[.int .u8 d, .int .i64 x])) := hAX
            clear hAX hex hn2
            go_region_held3 (fun w' => w'.cell? ⟨X, 1, none⟩ = some (.int .i64 x))
              (first | exact cX | exact c16 | exact c28 | assumption | go_keep)
              ((first
                | (go_at_call 17; refine (HB.out _ _ (by first | exact a28 | exact a28.dr biFrame | exact hA5.out | exact hA5.out.dr biFrame)).mono ?_; rintro e w16 ⟨rfl, a16⟩; have c16 := (a16.box (k := 6) rfl).cellAt 1 _ rfl)
                | (go_at_call 29; refine (HR.out _ _ (by first | exact a16 | exact a16.dr biFrame | exact hA5.out | exact hA5.out.dr biFrame)).mono ?_; rintro e w28 ⟨rfl, a28⟩; have c28 := (a28.box (k := 6) rfl).cellAt 1 _ rfl)))
            clear c16 c28 HB HR hA5 a16
            have y1 := (a28.box (k := 6) rfl).cellAt 1 (.int .i64 x) rfl
            have S1 := Lib.hid (show_two a28 HT.out 0 1 rfl rfl hx2)
            clear a28
            go_wp2_with fail
            refine S1.out.mono ?_
            rintro e W1 ⟨rfl, A1⟩
            clear y1
            have y1 := (A1.box (k := 6) rfl).cellAt 1 (.int .i64 x) rfl
            have S2 := Lib.hid (show_two A1 HT.out 2 3 rfl rfl hx2)
            clear A1
            go_wp2_with fail
            refine S2.out.mono ?_
            rintro e W2 ⟨rfl, A2⟩
            clear y1
            have y1 := (A2.box (k := 6) rfl).cellAt 1 (.int .i64 x) rfl
            have S3 := Lib.hid (show_two A2 HT.out 4 5 rfl rfl hx2)
            clear A2
            go_wp2_with fail
            refine S3.out.mono ?_
            rintro e W3 ⟨rfl, A3⟩
            clear y1
            go_wp2_with fail
            go_roundw
            case rel => exact ⟨k + 1, sp, rp, op, wp, n2, n3, rfl, rfl, rfl, rfl, by go_num, by omega, pick_six A3⟩
            case measure => simp [intOf] <;> omega
          · go_wp2_with fail
            clear c0 c1
            generalize wr.heap.size = X at *
            generalize wr.alloc (.cells #[.int .u8 d, .int .i64 x] 51) = V at *
            have cX : V.cell? ⟨X, 1, none⟩ = some (.int .i64 x) := (hAX.out.box (k := 6) rfl).cellAt 1 _ rfl
            have HB := Lib.hid (fun W (h : All BI w W (sets7 sp rp tp qp op wp n1 n1 m3 n3 X #[.int .u8 d, .int .i64 x])) => show Calls Tryd.prog 24 #[.pointer sp] W (fun e w' => e = .returned (.tuple #[]) ∧ All BI w w' (sets7 sp rp tp qp op wp (clearSt n1) n1 m3 n3 X #[.int .u8 d, .int .i64 x])) from h.callI itFrame 0 rfl (fun C hC => clear_b hC))
            have HR := Lib.hid (fun W q (h : All BI w W (sets7 sp rp tp qp op wp q n1 m3 n3 X #[.int .u8 d, .int .i64 x])) => show Calls Tryd.prog 30 #[.pointer rp] W (fun e w' => e = .returned (.tuple #[]) ∧ All BI w w' (sets7 sp rp tp qp op wp q (clearSt n1) m3 n3 X #[.int .u8 d, .int .i64 x])) from h.callI itFrame 1 rfl (fun C hC => clear_r hC))
            obtain ⟨n2, hn2⟩ : ∃ e, (clearSt n1) = e := ⟨_, rfl⟩
            simp only [hn2] at HB HR
            have HB1 := Lib.hid (HB.out _ hAX.out)
            clear hAX HB hn2 cX
            go_wp2_with fail
            refine HB1.out.mono ?_
            rintro e w16 ⟨rfl, a16⟩
            have HR1 := Lib.hid (HR.out _ _ a16)
            clear a16 HR
            go_wp2_with fail
            refine HR1.out.mono ?_
            rintro e w28 ⟨rfl, a28⟩
            have y1 := (a28.box (k := 6) rfl).cellAt 1 (.int .i64 x) rfl
            have S1 := Lib.hid (show_two a28 HT.out 0 1 rfl rfl hx2)
            clear a28
            go_wp2_with fail
            refine S1.out.mono ?_
            rintro e W1 ⟨rfl, A1⟩
            clear y1
            have y1 := (A1.box (k := 6) rfl).cellAt 1 (.int .i64 x) rfl
            have S2 := Lib.hid (show_two A1 HT.out 2 3 rfl rfl hx2)
            clear A1
            go_wp2_with fail
            refine S2.out.mono ?_
            rintro e W2 ⟨rfl, A2⟩
            clear y1
            have y1 := (A2.box (k := 6) rfl).cellAt 1 (.int .i64 x) rfl
            have S3 := Lib.hid (show_two A2 HT.out 4 5 rfl rfl hx2)
            clear A2
            go_wp2_with fail
            refine S3.out.mono ?_
            rintro e W3 ⟨rfl, A3⟩
            clear y1
            go_wp2_with fail
            go_roundw
            case rel => exact ⟨k + 1, sp, rp, op, wp, n2, n3, rfl, rfl, rfl, rfl, by go_num, by omega, pick_six A3⟩
            case measure => simp [intOf] <;> omega
          · go_wp2_with fail
            clear c0 c1
            generalize wr.heap.size = X at *
            generalize wr.alloc (.cells #[.int .u8 d, .int .i64 x] 51) = V at *
            have cX : V.cell? ⟨X, 1, none⟩ = some (.int .i64 x) := (hAX.out.box (k := 6) rfl).cellAt 1 _ rfl
            have HB := Lib.hid (fun W (h : All BI w W (sets7 sp rp tp qp op wp n1 n1 m3 n3 X #[.int .u8 d, .int .i64 x])) => show Calls Tryd.prog 20 #[.pointer sp, .pointer tp] W (fun e w' => e = .returned (.int .i64 (cmbErr n1 m3)) ∧ All BI w w' (sets7 sp rp tp qp op wp (cmbSt orP n1 m3) n1 m3 n3 X #[.int .u8 d, .int .i64 x])) from h.callI2 itFrame 0 2 (by decide) rfl rfl (fun C D hC hD hCD => cmb_b 20 orP (.inl ⟨rfl, rfl⟩) hC hD hCD))
            have HR := Lib.hid (fun W q (h : All BI w W (sets7 sp rp tp qp op wp q n1 m3 n3 X #[.int .u8 d, .int .i64 x])) => show Calls Tryd.prog 31 #[.pointer rp, .pointer qp] W (fun e w' => e = .returned (.int .i64 (cmbErr n1 m3)) ∧ All BI w w' (sets7 sp rp tp qp op wp q (cmbSt orP n1 m3) m3 n3 X #[.int .u8 d, .int .i64 x])) from h.callI2 itFrame 1 3 (by decide) rfl rfl (fun C D hC hD hCD => union_r hC hD hCD))
            obtain ⟨n2, hn2⟩ : ∃ e, (cmbSt orP n1 m3) = e := ⟨_, rfl⟩
            obtain ⟨ex, hex⟩ : ∃ e, cmbErr n1 m3 = e := ⟨_, rfl⟩
            simp only [hn2, hex] at HB HR
            have HB1 := Lib.hid (HB.out _ hAX.out)
            clear hAX HB hn2 hex cX
            go_wp2_with fail
            refine HB1.out.mono ?_
            rintro e w16 ⟨rfl, a16⟩
            have HR1 := Lib.hid (HR.out _ _ a16)
            clear a16 HR
            go_wp2_with fail
            refine HR1.out.mono ?_
            rintro e w28 ⟨rfl, a28⟩
            have y1 := (a28.box (k := 6) rfl).cellAt 1 (.int .i64 x) rfl
            have S1 := Lib.hid (show_two a28 HT.out 0 1 rfl rfl hx2)
            clear a28
            go_wp2_with fail
            refine S1.out.mono ?_
            rintro e W1 ⟨rfl, A1⟩
            clear y1
            have y1 := (A1.box (k := 6) rfl).cellAt 1 (.int .i64 x) rfl
            have S2 := Lib.hid (show_two A1 HT.out 2 3 rfl rfl hx2)
            clear A1
            go_wp2_with fail
            refine S2.out.mono ?_
            rintro e W2 ⟨rfl, A2⟩
            clear y1
            have y1 := (A2.box (k := 6) rfl).cellAt 1 (.int .i64 x) rfl
            have S3 := Lib.hid (show_two A2 HT.out 4 5 rfl rfl hx2)
            clear A2
            go_wp2_with fail
            refine S3.out.mono ?_
            rintro e W3 ⟨rfl, A3⟩
            clear y1
            go_wp2_with fail
            go_roundw
            case rel => exact ⟨k + 1, sp, rp, op, wp, n2, n3, rfl, rfl, rfl, rfl, by go_num, by omega, pick_six A3⟩
            case measure => simp [intOf] <;> omega
          · go_wp2_with fail
            clear c0 c1
            generalize wr.heap.size = X at *
            generalize wr.alloc (.cells #[.int .u8 d, .int .i64 x] 51) = V at *
            have cX : V.cell? ⟨X, 1, none⟩ = some (.int .i64 x) := (hAX.out.box (k := 6) rfl).cellAt 1 _ rfl
            have HB := Lib.hid (fun W (h : All BI w W (sets7 sp rp tp qp op wp n1 n1 m3 n3 X #[.int .u8 d, .int .i64 x])) => show Calls Tryd.prog 21 #[.pointer sp, .pointer tp] W (fun e w' => e = .returned (.int .i64 (cmbErr n1 m3)) ∧ All BI w w' (sets7 sp rp tp qp op wp (cmbSt minusP n1 m3) n1 m3 n3 X #[.int .u8 d, .int .i64 x])) from h.callI2 itFrame 0 2 (by decide) rfl rfl (fun C D hC hD hCD => cmb_b 21 minusP (.inr ⟨rfl, rfl⟩) hC hD hCD))
            have HR := Lib.hid (fun W q (h : All BI w W (sets7 sp rp tp qp op wp q n1 m3 n3 X #[.int .u8 d, .int .i64 x])) => show Calls Tryd.prog 32 #[.pointer rp, .pointer qp] W (fun e w' => e = .returned (.int .i64 (cmbErr n1 m3)) ∧ All BI w w' (sets7 sp rp tp qp op wp q (cmbSt minusP n1 m3) m3 n3 X #[.int .u8 d, .int .i64 x])) from h.callI2 itFrame 1 3 (by decide) rfl rfl (fun C D hC hD hCD => minus_r hC hD hCD))
            obtain ⟨n2, hn2⟩ : ∃ e, (cmbSt minusP n1 m3) = e := ⟨_, rfl⟩
            obtain ⟨ex, hex⟩ : ∃ e, cmbErr n1 m3 = e := ⟨_, rfl⟩
            simp only [hn2, hex] at HB HR
            have HB1 := Lib.hid (HB.out _ hAX.out)
            clear hAX HB hn2 hex cX
            go_wp2_with fail
            refine HB1.out.mono ?_
            rintro e w16 ⟨rfl, a16⟩
            have HR1 := Lib.hid (HR.out _ _ a16)
            clear a16 HR
            go_wp2_with fail
            refine HR1.out.mono ?_
            rintro e w28 ⟨rfl, a28⟩
            have y1 := (a28.box (k := 6) rfl).cellAt 1 (.int .i64 x) rfl
            have S1 := Lib.hid (show_two a28 HT.out 0 1 rfl rfl hx2)
            clear a28
            go_wp2_with fail
            refine S1.out.mono ?_
            rintro e W1 ⟨rfl, A1⟩
            clear y1
            have y1 := (A1.box (k := 6) rfl).cellAt 1 (.int .i64 x) rfl
            have S2 := Lib.hid (show_two A1 HT.out 2 3 rfl rfl hx2)
            clear A1
            go_wp2_with fail
            refine S2.out.mono ?_
            rintro e W2 ⟨rfl, A2⟩
            clear y1
            have y1 := (A2.box (k := 6) rfl).cellAt 1 (.int .i64 x) rfl
            have S3 := Lib.hid (show_two A2 HT.out 4 5 rfl rfl hx2)
            clear A2
            go_wp2_with fail
            refine S3.out.mono ?_
            rintro e W3 ⟨rfl, A3⟩
            clear y1
            go_wp2_with fail
            go_roundw
            case rel => exact ⟨k + 1, sp, rp, op, wp, n2, n3, rfl, rfl, rfl, rfl, by go_num, by omega, pick_six A3⟩
            case measure => simp [intOf] <;> omega
          · go_wp2_with fail
            clear c0 c1
            generalize wr.heap.size = X at *
            generalize wr.alloc (.cells #[.int .u8 d, .int .i64 x] 51) = V at *
            have cX : V.cell? ⟨X, 1, none⟩ = some (.int .i64 x) := (hAX.out.box (k := 6) rfl).cellAt 1 _ rfl
            obtain ⟨C0, i0⟩ := hAX.out.get (k := 0) rfl
            have HB := Lib.hid (copy_b (show It V (true, sp, n1) C0 from i0))
            clear i0 cX
            go_wp2_with fail
            refine HB.out.mono ?_
            rintro e w16 ⟨sp2, rfl, k16, i16⟩
            have a16 := hAX.out.pushI itFrame k16 i16
            obtain ⟨C1, i1⟩ := a16.get (k := 1) rfl
            have HR := Lib.hid (copy_r (show It w16 (false, rp, n1) C1 from i1))
            have ha16 := Lib.hid a16
            clear i1 HB i16 k16 hAX a16
            go_wp2_with fail
            refine HR.out.mono ?_
            rintro e w28 ⟨rp2, rfl, k28, i28⟩
            have a28 := pick_copy (ha16.out.pushI itFrame k28 i28)
            clear k28 i28 HR ha16
            have y1 := (a28.box (k := 6) rfl).cellAt 1 (.int .i64 x) rfl
            have S1 := Lib.hid (show_two a28 HT.out 0 1 rfl rfl hx2)
            clear a28
            go_wp2_with fail
            refine S1.out.mono ?_
            rintro e W1 ⟨rfl, A1⟩
            clear y1
            have y1 := (A1.box (k := 6) rfl).cellAt 1 (.int .i64 x) rfl
            have S2 := Lib.hid (show_two A1 HT.out 2 3 rfl rfl hx2)
            clear A1
            go_wp2_with fail
            refine S2.out.mono ?_
            rintro e W2 ⟨rfl, A2⟩
            clear y1
            have y1 := (A2.box (k := 6) rfl).cellAt 1 (.int .i64 x) rfl
            have S3 := Lib.hid (show_two A2 HT.out 4 5 rfl rfl hx2)
            clear A2
            go_wp2_with fail
            refine S3.out.mono ?_
            rintro e W3 ⟨rfl, A3⟩
            clear y1
            go_wp2_with fail
            go_roundw
            case rel => exact ⟨k + 1, sp2, rp2, sp, rp, n1, n1, rfl, rfl, rfl, rfl, by go_num, by omega, pick_six A3⟩
            case measure => simp [intOf] <;> omega
        · have hkI : ¬ (k : Int) < (l : Int) := by omega
          have HK := Lib.hid A.keeps
          have HW := Lib.hid (works_ok (HT.out.keeps A.keeps hpos (by simp)))
          clear A
          go_wp2_with fail
          refine HW.out.mono ?_
          rintro e w9 ⟨rfl, k9⟩
          go_wp2_with fail
          go_ret
          exact ⟨rfl, (HK.out.trans k9).below⟩
set_option maxRecDepth 1000000 in
theorem plays_walk (s o : Int) {v u : Value} {ls ms : List (Int × Int)} {w : World} (hv : ArgP .u8 .i64 w v ls) (hu : ArgP .u8 .i64 w u ms) (hT : Table w) :
    Calls Tryd.prog 8 #[.int .i64 s, .int .i64 o, v, u] w fun e w' => e = .returned (.bool true) ∧ Below w.heap.size w w' := by
  by_cases hl : ls.length ≤ 60
  · by_cases hm : ms.length ≤ 60
    · exact plays_some s o hv hu hl hm hT
    · obtain ⟨a0, cap0, rfl⟩ := hv.shape
      obtain ⟨a1, cap1, rfl⟩ := hu.shape
      clear hv hu
      generalize ls.length = l at *
      generalize ms.length = m at *
      have HW := Lib.hid (works_ok hT)
      clear hT
      go_enter Tryd.func8, Tryd.ntmps8
      go_wp2_with fail
      refine HW.out.mono ?_
      rintro e w1 ⟨rfl, k1⟩
      go_wp2_with fail
      go_ret
      exact ⟨rfl, k1.below⟩
  · obtain ⟨a0, cap0, rfl⟩ := hv.shape
    obtain ⟨a1, cap1, rfl⟩ := hu.shape
    clear hv hu
    generalize ls.length = l at *
    generalize ms.length = m at *
    have HW := Lib.hid (works_ok hT)
    clear hT
    go_enter Tryd.func8, Tryd.ntmps8
    go_wp2_with fail
    refine HW.out.mono ?_
    rintro e w1 ⟨rfl, k1⟩
    go_wp2_with fail
    go_ret
    exact ⟨rfl, k1.below⟩
end Go.Proofs.YtcdnflffpeijfaaDoor
