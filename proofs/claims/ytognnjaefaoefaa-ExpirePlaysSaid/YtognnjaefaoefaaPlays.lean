/- ExpirePlays: for every input the call returns true, and nothing that was there has changed. No condition. -/
import Derived.Test.YtognnjaefaoefaaThing2
import Derived.Test.YtognnjaefaoefaaTriples
import Derived.Test.YtognnjaefaoefaaWorks
import Derived.Deep.RegionHeld3
import Derived.Deep.LoopGhost
import Derived.Deep.CutRange
import Derived.Deep.CutBlock
namespace Go.Proofs.Ytognnjaefaoefaa
open Go.RowKit
set_option linter.unusedVariables false

set_option maxRecDepth 1000000 in
set_option maxHeartbeats 4000000 in
theorem plays_some (ask : Int) {v : Value} {ls : List (Int × Int × Int)} {w : World} (hv : ArgT w v ls) (hl : ¬ ((150 < ls.length ∧ ls.length ≤ 256) ∨ 261 < ls.length)) :
    Calls Try.prog 8 #[v, .int .i64 ask] w fun e w' => e = .returned (.bool true) ∧ Below w.heap.size w w' := by
  have HV := Lib.hid hv
  obtain ⟨a0, cap0, rfl⟩ := hv.shape
  clear hv
  obtain ⟨l, hll⟩ : ∃ l, ls.length = l := ⟨_, rfl⟩
  have HLl := Lib.hid hll
  rw [hll] at hl ⊢
  clear hll
  have HGd := Lib.hid (show ((150 : Int) < (l : Int) ∧ ¬ (l : Int) ≤ 256 ∧ ¬ (261 : Int) < (l : Int)) ∨ (¬ (150 : Int) < (l : Int) ∧ ¬ (261 : Int) < (l : Int)) by omega)
  have hlb : l ≤ 261 := by omega
  clear hl
  go_enter Try.func8, Try.ntmps8
  go_upto_region 1 with fail
  go_cut [35] from 23 (fun s wx => s = .bool false ∧ w = wx)
  case first =>
    rcases HGd.out with ⟨g1, g2, g3⟩ | ⟨g1, g3⟩
    all_goals
      go_wp2_with fail
      go_meet
      exact ⟨rfl, rfl⟩
  case rest =>
  obtain ⟨rfl, rfl⟩ := hcut
  clear HGd
  go_wp2_with fail
  refine (new_b _).mono ?_
  rintro e w1 ⟨b, rfl, k1, i1⟩
  have A1 := (All.none (It := BI) w).push biFrame k1 (show BI w1 (.inl (true, b, [], none)) _ from i1)
  clear k1 i1
  go_wp2_with fail
  refine (new_r _).mono ?_
  rintro e w2 ⟨c, rfl, k2, i2⟩
  have A2 : All BI w w2 (two b c []) := A1.push biFrame k2 (show BI w2 (.inl (false, c, [], none)) _ from i2)
  have HA := Lib.hid A2
  clear k2 i2 A1 A2
  go_wp2_with fail
  go_loopg [5, 6, 7] l (fun gk q r i wr => ∃ (k b c : Nat) (L : List (Int × Int)), gk = l - k ∧ q = .pointer (some ⟨b, 0, none⟩) ∧ r = .pointer (some ⟨c, 0, none⟩) ∧ i = .int .i64 k ∧ k ≤ l ∧ All BI w wr (two b c L))
  case atStart => exact ⟨0, b, c, [], (by omega), rfl, rfl, rfl, Nat.zero_le _, HA.out⟩
  case round =>
    clear HA
    obtain ⟨k, b, c, L, rfl, rfl, rfl, rfl, hk, A⟩ := hrel
    by_cases hkl : k < l
    · have hkI : (k : Int) < (l : Int) := by omega
      have hkb : (k : Int) ≤ 261 := by omega
      obtain ⟨g, off, rfl, hg, hlc, hcm, hcl⟩ := ArgT.some_ (a := a0) (cap := cap0) (by have := HV.out; rw [HLl.out] at this; rw [HLl.out]; exact this) (i := k) (by have := HLl.out; omega)
      have hc2 := hcl k (by have := HLl.out; omega)
      have c0 := (A.keeps.cell (p := ⟨g, off + k * 3, none⟩) hg (by simp)).trans hc2.1
      have c1 := (A.keeps.cell (p := ⟨g, off + k * 3 + 1, none⟩) hg (by simp)).trans hc2.2.1
      have c2 := (A.keeps.cell (p := ⟨g, off + k * 3 + 2, none⟩) hg (by simp)).trans hc2.2.2
      clear hcl hc2
      obtain ⟨d, hdd⟩ : ∃ d, (ls.getD k (0, 0, 0)).1 = d := ⟨_, rfl⟩
      obtain ⟨x, hxx⟩ : ∃ x, (ls.getD k (0, 0, 0)).2.1 = x := ⟨_, rfl⟩
      obtain ⟨t, htt⟩ : ∃ x, (ls.getD k (0, 0, 0)).2.2 = x := ⟨_, rfl⟩
      rw [hdd] at c0
      rw [hxx] at c1
      rw [htt] at c2
      clear hdd hxx htt
      have AX := A.alloc itFrame 46 #[.int .i64 d, .int .i64 x, .int .i64 t]
      have hAX : Hid (All BI w (wr.alloc (.cells #[.int .i64 d, .int .i64 x, .int .i64 t] 46)) (twoX b c L L wr.heap.size #[.int .i64 d, .int .i64 x, .int .i64 t])) := Lib.hid AX
      clear A AX
      go_upto_region 9 with fail
      clear c0 c1 c2
      obtain ⟨X, hX⟩ : ∃ X, wr.heap.size = X := ⟨_, rfl⟩
      obtain ⟨V, hVV⟩ : ∃ V, wr.alloc (.cells #[.int .i64 d, .int .i64 x, .int .i64 t] 46) = V := ⟨_, rfl⟩
      simp only [hX, hVV] at hAX ⊢
      clear hX hVV
      have cX : V.cell? ⟨X, 0, none⟩ = some (.int .i64 d) := (hAX.out.box (k := 2) rfl).cellAt 0 _ rfl
      go_upto_block 2 with fail
      clear cX
      go_cut [5, 6] from 39 to 172 (fun q r wx => ∃ (b c : Nat) (L : List (Int × Int)), q = .pointer (some ⟨b, 0, none⟩) ∧ r = .pointer (some ⟨c, 0, none⟩) ∧ All BI w wx (twoX b c L L X #[.int .i64 d, .int .i64 x, .int .i64 t]))
      case first =>
        rcases (show d = 0 ∨ d = 1 ∨ d = 2 ∨ d = 3 ∨ (d ≠ 0 ∧ d ≠ 1 ∧ d ≠ 2 ∧ d ≠ 3) by omega) with rfl | rfl | rfl | rfl | ⟨n0, n1, n2, n3⟩
        · have y1 : V.cell? ⟨X, 1, none⟩ = some (.int .i64 x) := (hAX.out.box (k := 2) rfl).cellAt 1 _ rfl
          have y2 : V.cell? ⟨X, 2, none⟩ = some (.int .i64 t) := (hAX.out.box (k := 2) rfl).cellAt 2 _ rfl
          have HB := Lib.hid (fun W M (h : All BI w W (twoX b c L M X #[.int .i64 0, .int .i64 x, .int .i64 t])) => show Calls Try.prog 16 #[.pointer (some ⟨b, 0, none⟩), .int .i64 x, .int .i64 t] W (fun e w' => e = .returned (.int .i64 (setErr L x t)) ∧ All BI w w' (twoX b c (setL L x t) M X #[.int .i64 0, .int .i64 x, .int .i64 t])) from h.callI itFrame 0 rfl (fun C hC => set_b hC x t))
          have HR := Lib.hid (fun W M (h : All BI w W (twoX b c M L X #[.int .i64 0, .int .i64 x, .int .i64 t])) => show Calls Try.prog 21 #[.pointer (some ⟨c, 0, none⟩), .int .i64 x, .int .i64 t] W (fun e w' => e = .returned (.int .i64 (setErr L x t)) ∧ All BI w w' (twoX b c M (setL L x t) X #[.int .i64 0, .int .i64 x, .int .i64 t])) from h.callI itFrame 1 rfl (fun C hC => set_r hC x t))
          obtain ⟨ex, hex⟩ : ∃ e, setErr L x t = e := ⟨_, rfl⟩
          obtain ⟨L2, hL2⟩ : ∃ e, setL L x t = e := ⟨_, rfl⟩
          simp only [hex, hL2] at HB HR
          clear hex hL2
          go_wp2_with fail
          go_region_held3 (fun w' => w'.cell? ⟨X, 1, none⟩ = some (.int .i64 x) ∧ w'.cell? ⟨X, 2, none⟩ = some (.int .i64 t))
            (first | exact ⟨y1, y2⟩ | exact z16 | exact z21 | assumption | go_keep)
            ((first
              | (go_at_call 16; refine (HB.out _ _ (by first | exact a21 | exact a21.dr biFrame | exact hAX.out | exact hAX.out.dr biFrame)).mono ?_; rintro e w16 ⟨rfl, a16⟩; have z16 : w16.cell? ⟨X, 1, none⟩ = some (.int .i64 x) ∧ w16.cell? ⟨X, 2, none⟩ = some (.int .i64 t) := ⟨(a16.box (k := 2) rfl).cellAt 1 _ rfl, (a16.box (k := 2) rfl).cellAt 2 _ rfl⟩)
              | (go_at_call 21; refine (HR.out _ _ (by first | exact a16 | exact a16.dr biFrame | exact hAX.out | exact hAX.out.dr biFrame)).mono ?_; rintro e w21 ⟨rfl, a21⟩; have z21 : w21.cell? ⟨X, 1, none⟩ = some (.int .i64 x) ∧ w21.cell? ⟨X, 2, none⟩ = some (.int .i64 t) := ⟨(a21.box (k := 2) rfl).cellAt 1 _ rfl, (a21.box (k := 2) rfl).cellAt 2 _ rfl⟩)))
          all_goals
            clear y1 y2 z16 z21 HB HR
            go_wp2_with fail
            go_meet
            first | exact ⟨b, c, L2, rfl, rfl, a21⟩ | exact ⟨b, c, L2, rfl, rfl, a16⟩
        · have y1 : V.cell? ⟨X, 1, none⟩ = some (.int .i64 x) := (hAX.out.box (k := 2) rfl).cellAt 1 _ rfl
          have HB := Lib.hid (fun W M (h : All BI w W (twoX b c L M X #[.int .i64 1, .int .i64 x, .int .i64 t])) => show Calls Try.prog 18 #[.pointer (some ⟨b, 0, none⟩), .int .i64 x] W (fun e w' => e = .returned (.bool (decide (placeOf L x < L.length))) ∧ All BI w w' (twoX b c (dropE L x) M X #[.int .i64 1, .int .i64 x, .int .i64 t])) from h.callI itFrame 0 rfl (fun C hC => drop_b hC x))
          have HR := Lib.hid (fun W M (h : All BI w W (twoX b c M L X #[.int .i64 1, .int .i64 x, .int .i64 t])) => show Calls Try.prog 22 #[.pointer (some ⟨c, 0, none⟩), .int .i64 x] W (fun e w' => e = .returned (.bool (decide (placeOf L x < L.length))) ∧ All BI w w' (twoX b c M (dropE L x) X #[.int .i64 1, .int .i64 x, .int .i64 t])) from h.callI itFrame 1 rfl (fun C hC => drop_r hC x))
          obtain ⟨ex, hex⟩ : ∃ e, decide (placeOf L x < L.length) = e := ⟨_, rfl⟩
          obtain ⟨L2, hL2⟩ : ∃ e, dropE L x = e := ⟨_, rfl⟩
          simp only [hex, hL2] at HB HR
          clear hex hL2
          go_wp2_with fail
          go_region_held3 (fun w' => w'.cell? ⟨X, 1, none⟩ = some (.int .i64 x))
            (first | exact y1 | exact z16 | exact z21 | assumption | go_keep)
            ((first
              | (go_at_call 18; refine (HB.out _ _ (by first | exact a21 | exact a21.dr biFrame | exact hAX.out | exact hAX.out.dr biFrame)).mono ?_; rintro e w16 ⟨rfl, a16⟩; have z16 : w16.cell? ⟨X, 1, none⟩ = some (.int .i64 x) := (a16.box (k := 2) rfl).cellAt 1 _ rfl)
              | (go_at_call 22; refine (HR.out _ _ (by first | exact a16 | exact a16.dr biFrame | exact hAX.out | exact hAX.out.dr biFrame)).mono ?_; rintro e w21 ⟨rfl, a21⟩; have z21 : w21.cell? ⟨X, 1, none⟩ = some (.int .i64 x) := (a21.box (k := 2) rfl).cellAt 1 _ rfl)))
          all_goals
            clear y1 z16 z21 HB HR
            go_wp2_with fail
            go_meet
            first | exact ⟨b, c, L2, rfl, rfl, a21⟩ | exact ⟨b, c, L2, rfl, rfl, a16⟩
        · have y2 : V.cell? ⟨X, 2, none⟩ = some (.int .i64 t) := (hAX.out.box (k := 2) rfl).cellAt 2 _ rfl
          have HB := Lib.hid (fun W M g (h : All BI w W [.inl (true, b, L, none), .inl (false, c, M, g), .inr (X, 46, #[.int .i64 2, .int .i64 x, .int .i64 t])]) => show Calls Try.prog 13 #[.pointer (some ⟨b, 0, none⟩), .int .i64 t] W (fun e w' => ∃ o, e = .returned o ∧ All BI w w' [.inl (true, b, L.drop (dueN L t), some (o, idsOf (L.take (dueN L t)))), .inl (false, c, M, g), .inr (X, 46, #[.int .i64 2, .int .i64 x, .int .i64 t])]) from due_bI h 0 rfl t)
          have HR := Lib.hid (fun W M g (h : All BI w W [.inl (true, b, M, g), .inl (false, c, L, none), .inr (X, 46, #[.int .i64 2, .int .i64 x, .int .i64 t])]) => show Calls Try.prog 24 #[.pointer (some ⟨c, 0, none⟩), .int .i64 t] W (fun e w' => ∃ o, e = .returned o ∧ All BI w w' [.inl (true, b, M, g), .inl (false, c, L.drop (dueN L t), some (o, idsOf (L.take (dueN L t)))), .inr (X, 46, #[.int .i64 2, .int .i64 x, .int .i64 t])]) from due_rI h 1 rfl t)
          have hlen : (idsOf (L.take (dueN L t))).length ≤ 1000000 := by
            obtain ⟨C, hC⟩ := hAX.out.get (k := 1) rfl
            obtain ⟨⟨v, h1, h2, h3, h4, h5⟩, _⟩ := (show It V (false, c, L, none) C from hC)
            have := ids_len L (dueN L t) h5
            omega
          obtain ⟨xs, hxs⟩ : ∃ e, idsOf (L.take (dueN L t)) = e := ⟨_, rfl⟩
          obtain ⟨L2, hL2⟩ : ∃ e, L.drop (dueN L t) = e := ⟨_, rfl⟩
          simp only [hxs, hL2] at HB HR hlen
          clear hxs hL2
          go_wp2_with fail
          go_region_held3 (fun w' => w'.cell? ⟨X, 2, none⟩ = some (.int .i64 t))
            (first | exact y2 | exact z16 | exact z21 | assumption | go_keep)
            ((first
              | (go_at_call 13; refine (HB.out _ _ _ (by first | exact a21 | exact a21.dr biFrame | exact hAX.out | exact hAX.out.dr biFrame)).mono ?_; rintro e w16 ⟨o16, rfl, a16⟩; have z16 : w16.cell? ⟨X, 2, none⟩ = some (.int .i64 t) := (a16.box (k := 2) rfl).cellAt 2 _ rfl)
              | (go_at_call 24; refine (HR.out _ _ _ (by first | exact a16 | exact a16.dr biFrame | exact hAX.out | exact hAX.out.dr biFrame)).mono ?_; rintro e w21 ⟨o21, rfl, a21⟩; have z21 : w21.cell? ⟨X, 2, none⟩ = some (.int .i64 t) := (a21.box (k := 2) rfl).cellAt 2 _ rfl)
              | (go_at_call 23; (first | refine (Ints_e (gave_of a21 0 rfl) (gave_of a21 1 rfl) hlen rfl).mono ?_ | refine (Ints_e (gave_of a16 0 rfl) (gave_of a16 1 rfl) hlen rfl).mono ?_); rintro e w23 ⟨rfl, j23, rfl⟩)))
          all_goals
            clear y2 z16 z21 HB HR
            go_wp2_with fail
            go_meet
            first | exact ⟨b, c, L2, rfl, rfl, (forget_two a21).keep0 biFrame ((Keeps.refl _ _).drewN _)⟩ | exact ⟨b, c, L2, rfl, rfl, (forget_two a16).keep0 biFrame ((Keeps.refl _ _).drewN _)⟩
        · obtain ⟨C0, i0⟩ := hAX.out.get (k := 0) rfl
          have HB := Lib.hid (copy_b (show It V (true, b, L, none) C0 from i0))
          clear i0
          go_wp2_with fail
          refine HB.out.mono ?_
          rintro e w16 ⟨b2, rfl, k16, i16⟩
          have a16 := hAX.out.pushI itFrame k16 i16
          obtain ⟨C1, i1⟩ := a16.get (k := 1) rfl
          have HR := Lib.hid (copy_r (show It w16 (false, c, L, none) C1 from i1))
          have ha16 := Lib.hid a16
          clear i1 HB i16 k16 hAX a16
          go_wp2_with fail
          refine HR.out.mono ?_
          rintro e w28 ⟨c2, rfl, k28, i28⟩
          have a28 := pick_new (ha16.out.pushI itFrame k28 i28)
          clear k28 i28 HR ha16
          go_wp2_with fail
          go_meet
          exact ⟨b2, c2, L, rfl, rfl, a28⟩
        · have b0 : (d == 0) = false := by simpa using n0
          have b1 : (d == 1) = false := by simpa using n1
          have b2 : (d == 2) = false := by simpa using n2
          have b3 : (d == 3) = false := by simpa using n3
          clear n0 n1 n2 n3
          go_wp2_with fail
          go_meet
          exact ⟨b, c, L, rfl, rfl, hAX.out⟩
      case rest =>
        obtain ⟨b2, c2, L2, rfl, rfl, A⟩ := hcut
        clear hAX
        have S1 := Lib.hid (read_of A 0 rfl (fun C hC => next_b hC))
        obtain ⟨⟨h1, h2, h3⟩, hh⟩ : ∃ q, headQ L2 = q := ⟨_, rfl⟩
        obtain ⟨⟨p1, p2⟩, hp⟩ : ∃ q, whenQ L2 ask = q := ⟨_, rfl⟩
        obtain ⟨⟨q1, q2⟩, hq⟩ : ∃ q, whenQ L2 x = q := ⟨_, rfl⟩
        obtain ⟨n, hn⟩ : ∃ n, L2.length = n := ⟨_, rfl⟩
        have HH := Lib.hid hh
        have HP := Lib.hid hp
        have HW := Lib.hid hq
        have HN := Lib.hid hn
        clear hh hp hq hn
        simp only [HH.out] at S1
        clear A
        go_wp2_with fail
        refine S1.out.mono ?_
        rintro e W1 ⟨rfl, A1⟩
        have S2 := Lib.hid (read_of A1 1 rfl (fun C hC => next_r hC))
        simp only [HH.out] at S2
        clear A1 S1
        go_wp2_with fail
        refine S2.out.mono ?_
        rintro e W2 ⟨rfl, A2⟩
        have S3 := Lib.hid (read_of A2 0 rfl (fun C hC => when_b hC ask))
        simp only [HP.out] at S3
        clear A2 S2
        go_wp2_with fail
        refine S3.out.mono ?_
        rintro e W3 ⟨rfl, A3⟩
        have S4 := Lib.hid (read_of A3 1 rfl (fun C hC => when_r hC ask))
        simp only [HP.out] at S4
        clear A3 S3
        go_wp2_with fail
        refine S4.out.mono ?_
        rintro e W4 ⟨rfl, A4⟩
        have y4 : W4.cell? ⟨X, 1, none⟩ = some (.int .i64 x) := (A4.box (k := 2) rfl).cellAt 1 _ rfl
        have S5 := Lib.hid (read_of A4 0 rfl (fun C hC => when_b hC x))
        simp only [HW.out] at S5
        clear A4 S4
        go_wp2_with fail
        refine S5.out.mono ?_
        rintro e W5 ⟨rfl, A5⟩
        have y5 : W5.cell? ⟨X, 1, none⟩ = some (.int .i64 x) := (A5.box (k := 2) rfl).cellAt 1 _ rfl
        have S6 := Lib.hid (read_of A5 1 rfl (fun C hC => when_r hC x))
        simp only [HW.out] at S6
        clear A5 S5 y4
        go_wp2_with fail
        refine S6.out.mono ?_
        rintro e W6 ⟨rfl, A6⟩
        have S7 := Lib.hid (read_of A6 0 rfl (fun C hC => (len_b hC).mono (fun _ _ h => ⟨h.1, by rw [h.2]; exact Keeps.refl _ _⟩)))
        simp only [HN.out] at S7
        clear A6 S6 y5
        go_wp2_with fail
        refine S7.out.mono ?_
        rintro e W7 ⟨rfl, A7⟩
        have S8 := Lib.hid (read_of A7 1 rfl (fun C hC => (len_r hC).mono (fun _ _ h => ⟨h.1, by rw [h.2]; exact Keeps.refl _ _⟩)))
        simp only [HN.out] at S8
        clear A7 S7
        go_wp2_with fail
        refine S8.out.mono ?_
        rintro e W8 ⟨rfl, A8⟩
        clear S8
        go_wp2_with fail
        go_roundg (l - (k + 1))
        case rel => exact ⟨k + 1, b2, c2, L2, rfl, rfl, rfl, by go_num, by omega, pick_two A8⟩
        case measure => omega
    · have hkI : ¬ (k : Int) < (l : Int) := by omega
      have S1 := Lib.hid (due_bI A 0 rfl 1099511627776)
      have hlen : (idsOf (L.take (dueN L 1099511627776))).length ≤ 1000000 := by
        obtain ⟨C, hC⟩ := A.get (k := 1) rfl
        obtain ⟨⟨v, h1, h2, h3, h4, h5⟩, _⟩ := (show It wr (false, c, L, none) C from hC)
        have := ids_len L (dueN L 1099511627776) h5
        omega
      clear A
      go_wp2_with fail
      refine S1.out.mono ?_
      rintro e W1 ⟨o1, rfl, A1⟩
      have S2 := Lib.hid (due_rI A1 1 rfl 1099511627776)
      clear A1 S1
      go_wp2_with fail
      refine S2.out.mono ?_
      rintro e W2 ⟨o2, rfl, A2⟩
      have S3 := Lib.hid (Ints_e (gave_of A2 0 rfl) (gave_of A2 1 rfl) hlen rfl)
      have HK := Lib.hid A2.keeps
      clear A2 S2 hlen
      go_wp2_with fail
      refine S3.out.mono ?_
      rintro e W3 ⟨rfl, j3, rfl⟩
      have HK3 := Lib.hid (HK.out.drewN j3)
      clear S3
      go_wp2_with fail
      refine (works_ok _).mono ?_
      rintro e w9 ⟨rfl, k9⟩
      go_wp2_with fail
      go_ret
      exact ⟨rfl, (HK3.out.trans k9).below⟩
end Go.Proofs.Ytognnjaefaoefaa
