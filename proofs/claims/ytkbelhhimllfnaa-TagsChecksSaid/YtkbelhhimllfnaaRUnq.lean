/- The contract of the reference's Unquote. Condition: a text of at most 500 bytes. -/
import Derived.Test.YtkbelhhimllfnaaRCheck
import Derived.Test.YtkbelhhimllfnaaKitB
namespace Go.Proofs.Ytkbelhhimllfnaa
open Go.RowKit

set_option maxRecDepth 1000000 in
set_option maxHeartbeats 8000000 in
theorem RUnquote_ok (s : ByteArray) (hs : s.size ≤ 500) (w : World) : Calls Try.prog 24 #[.string s] w (UnqPost (unquote s.data.toList) w) := by
  obtain ⟨U, hU⟩ : ∃ U, unquote s.data.toList = U := ⟨_, rfl⟩
  have HU := Lib.hid hU
  rw [hU]
  clear hU
  by_cases h0 : s.size = 0
  · have hu : U = ([], 0, 9) := by
      rw [← HU.out, show s.data.toList = [] from List.eq_nil_of_length_eq_zero (by rw [← Lib.size_eq]; exact h0)]
      rfl
    subst hu
    go_enter Try.func24, Try.ntmps24
    go_wp2_with fail
    refine bodyPost_ret (results_tmp3 rfl _ _ _) rfl ?_
    exact ⟨rfl, Keeps.refl _ _⟩
  have hi0 : 0 < s.size := by omega
  have hd0 := drop_cons hi0
  rw [List.drop_zero] at hd0
  obtain ⟨c0, hc0⟩ : ∃ c, s[0] = c := ⟨_, rfl⟩
  have hc08 := c0.toNat_lt
  rw [hc0] at hd0
  have hcc0 : ∀ h, (s[0]'h).toNat = c0.toNat := fun h => by rw [hc0]
  by_cases hq : c0 = 34
  · have HU2 := Lib.hid (show U = (match unq (s.data.toList.drop 1) false [] 1 with | none => ([], 0, 9) | some (out, n) => if isTag out then (out, n, 0) else ([], 0, 16)) by rw [← HU.out, hd0, hq]; rfl)
    have hne : ((c0.toNat : Int) != 34) = false := by rw [hq]; decide
    have hz0 : ((s.size : Int) == 0) = false := beq_eq_false_iff_ne.2 (by omega)
    clear HU hd0 hc0 hq
    go_enter Try.func24, Try.ntmps24
    go_wp2_with fail
    go_loopw [5, 6] (fun v y wr => ∃ (i : Nat) (out : List UInt8), y = .int .i64 i ∧ 1 ≤ i ∧ i ≤ s.size ∧ out.length ≤ i ∧ unq (s.data.toList.drop 1) false [] 1 = unq (s.data.toList.drop i) false out i ∧ OwnB wr w.heap.size v (nums out) ∧ Keeps [] w wr) (fun _ y _ => s.size - (RowKit.intOf y).toNat)
    case atStart => exact ⟨1, [], rfl, Nat.le_refl _, hi0, by simp, rfl, OwnB.nil _ _, Keeps.refl _ _⟩
    case round =>
      obtain ⟨i, out, rfl, hi1, hi2, hol, hun, hv, hK⟩ := hrel
      have HUn := Lib.hid hun
      have hsz := hK.size
      clear hun
      by_cases hi : i < s.size
      · have hdc := drop_cons hi
        obtain ⟨c, hc⟩ : ∃ c, s[i] = c := ⟨_, rfl⟩
        have hc8 := c.toNat_lt
        rw [hc] at hdc
        have hcc : ∀ h, (s[i]'h).toNat = c.toNat := fun h => by rw [hc]
        clear hc
        rw [hdc] at HUn
        clear hdc
        have c34 : (c = 34) ↔ c.toNat = 34 := ⟨fun h => by rw [h]; rfl, fun h => UInt8.toNat_inj.1 h⟩
        have c92 : (c = 92) ↔ c.toNat = 92 := ⟨fun h => by rw [h]; rfl, fun h => UInt8.toNat_inj.1 h⟩
        have C34 := Lib.hid c34
        have C92 := Lib.hid c92
        clear c34 c92
        by_cases h34 : c.toNat = 34
        · have hq2 : unq (c :: s.data.toList.drop (i + 1)) false out i = some (out, i + 1) := by
            rw [unq, if_neg (by rw [C92.out]; omega), if_pos (C34.out.2 h34)]
          rw [HUn.out, hq2] at HU2
          clear hq2
          have hne : ((c.toNat : Int) == 34) = true := by simp; omega
          clear h34
          have hconv := run_text (P := Try.prog) hv (by unfold maxLen; omega) 34 9 5 Try.underlying34 Try.underlying5 Try.underlying9
          have HC := RCheck_ok ⟨out.toArray⟩ (by show out.toArray.size ≤ 1000; simp; omega) 
          obtain ⟨pa, cap, rfl⟩ := hv.shape
          cases ht : isTag out with
          | false =>
            have hT : tagErr (⟨out.toArray⟩ : ByteArray).data.toList = 16 := by unfold tagErr; rw [show isTag (⟨out.toArray⟩ : ByteArray).data.toList = false from ht]; rfl
            rw [hT] at HC
            have HC2 := Lib.hid HC
            have HU3 := HU2.out
            simp only [ht, Bool.false_eq_true, if_false] at HU3
            have HU4 := Lib.hid HU3
            clear HU2 HU3 HC hT ht
            go_wp2_with fail
            refine (HC2.out _).mono ?_
            rintro e W3 ⟨rfl, k3⟩
            go_wp2_with fail
            refine bodyPost_ret (results_tmp3 rfl _ _ _) rfl ?_
            rw [HU4.out]
            exact ⟨rfl, hK.trans k3⟩
          | true =>
            have hT : tagErr (⟨out.toArray⟩ : ByteArray).data.toList = 0 := tagErr_zero.2 ht
            rw [hT] at HC
            have HC2 := Lib.hid HC
            have HU3 := HU2.out
            simp only [ht, if_true] at HU3
            have HU4 := Lib.hid HU3
            have HV := Lib.hid hv
            clear HU2 HU3 HC hT ht
            go_wp2_with fail
            refine (HC2.out _).mono ?_
            rintro e W3 ⟨rfl, k3⟩
            have hconv3 := run_text (P := Try.prog) (HV.out.keeps k3 (by simp)) (by unfold maxLen; omega) 34 9 5 Try.underlying34 Try.underlying5 Try.underlying9
            go_wp2_with fail
            refine bodyPost_ret (results_tmp3 rfl _ _ _) rfl ?_
            rw [HU4.out]
            exact ⟨rfl, hK.trans k3⟩
        · have hne : ((c.toNat : Int) == 34) = false := by simp; omega
          by_cases h92 : c.toNat = 92
          · have hne2 : ((c.toNat : Int) == 92) = true := by simp; omega
            by_cases hj : i + 1 < s.size
            · have hdc := drop_cons hj
              obtain ⟨d, hd⟩ : ∃ d, s[i + 1] = d := ⟨_, rfl⟩
              have hd8 := d.toNat_lt
              rw [hd] at hdc
              have hdd : ∀ h, (s[i + 1]'h).toNat = d.toNat := fun h => by rw [hd]
              clear hd
              rw [hdc] at HUn
              clear hdc
              have D34 := Lib.hid (show (d = 34) ↔ d.toNat = 34 from ⟨fun h => by rw [h]; rfl, fun h => UInt8.toNat_inj.1 h⟩)
              have D92 := Lib.hid (show (d = 92) ↔ d.toNat = 92 from ⟨fun h => by rw [h]; rfl, fun h => UInt8.toNat_inj.1 h⟩)
              by_cases hgo : d.toNat = 34 ∨ d.toNat = 92
              · have hq2 : unq (c :: d :: s.data.toList.drop (i + 1 + 1)) false out i = unq (s.data.toList.drop (i + 1 + 1)) false (out ++ [d]) (i + 1 + 1) := by
                  rw [unq, if_pos (C92.out.2 h92), unq, if_neg (by rw [ne_eq, ne_eq, D34.out, D92.out]; omega)]
                have HQ2 := Lib.hid hq2
                have HNu := Lib.hid (nums_append out [d])
                have HNl := Lib.hid (nums_len out)
                obtain ⟨pa, cap, rfl⟩ := hv.shape
                clear hq2
                by_cases hd34 : d.toNat = 34
                · have e1 : ((d.toNat : Int) != 34) = false := by simp; omega
                  clear hgo hd34 h34 h92
                  go_wp2_with (at_builtin; refine wpList_append_slB rfl (.tmp 45) (.tmp 49) 34 rfl w.heap.size Try.underlying34 infoByte rfl rfl (hv.alloc _) (SlB.litB d (Blk.new wr 5 #[.int .u8 d.toNat])) (by rw [HNl.out]; simp [nums]; omega) (by simp; omega) ?_; intro v' w9 hown' hgrow hat)
                  have hk3 : Keeps [] w w9 := (hK.alloc _).grown hgrow (fun y hy => .inr (hv.lt y hy).1)
                  go_roundw
                  case rel => exact ⟨i + 1 + 1, out ++ [d], by go_num, by omega, by omega, by simp; omega, HUn.out.trans HQ2.out, by rw [HNu.out]; exact hown', hk3⟩
                  case measure => simp [RowKit.intOf]; omega
                · have e1 : ((d.toNat : Int) != 34) = true := by simp; omega
                  have e2 : ((d.toNat : Int) != 92) = false := by simp; omega
                  clear hgo hd34 h34 h92
                  go_wp2_with (at_builtin; refine wpList_append_slB rfl (.tmp 45) (.tmp 49) 34 rfl w.heap.size Try.underlying34 infoByte rfl rfl (hv.alloc _) (SlB.litB d (Blk.new wr 5 #[.int .u8 d.toNat])) (by rw [HNl.out]; simp [nums]; omega) (by simp; omega) ?_; intro v' w9 hown' hgrow hat)
                  have hk3 : Keeps [] w w9 := (hK.alloc _).grown hgrow (fun y hy => .inr (hv.lt y hy).1)
                  go_roundw
                  case rel => exact ⟨i + 1 + 1, out ++ [d], by go_num, by omega, by omega, by simp; omega, HUn.out.trans HQ2.out, by rw [HNu.out]; exact hown', hk3⟩
                  case measure => simp [RowKit.intOf]; omega
              · have hq2 : unq (c :: d :: s.data.toList.drop (i + 1 + 1)) false out i = none := by
                  rw [unq, if_pos (C92.out.2 h92), unq, if_pos (by rw [ne_eq, ne_eq, D34.out, D92.out]; omega)]
                rw [HUn.out, hq2] at HU2
                clear hq2
                have e1 : ((d.toNat : Int) != 34) = true := by simp; omega
                have e2 : ((d.toNat : Int) != 92) = true := by simp; omega
                clear hgo h34 h92
                go_wp2_with fail
                refine bodyPost_ret (results_tmp3 rfl _ _ _) rfl ?_
                rw [HU2.out]
                exact ⟨rfl, hK⟩
            · have hnil := drop_end hj
              rw [hnil] at HUn
              have hq2 : unq [c] false out i = none := by
                rw [unq, if_pos (C92.out.2 h92)]
                rfl
              rw [HUn.out, hq2] at HU2
              clear hq2 hnil h34 h92
              go_wp2_with fail
              refine bodyPost_ret (results_tmp3 rfl _ _ _) rfl ?_
              rw [HU2.out]
              exact ⟨rfl, hK⟩
          · have hne2 : ((c.toNat : Int) == 92) = false := by simp; omega
            have hq2 : unq (c :: s.data.toList.drop (i + 1)) false out i = unq (s.data.toList.drop (i + 1)) false (out ++ [c]) (i + 1) := by
              rw [unq, if_neg (by rw [C92.out]; omega), if_neg (by rw [C34.out]; omega)]
            have HQ2 := Lib.hid hq2
            have HNu := Lib.hid (nums_append out [c])
            have HNl := Lib.hid (nums_len out)
            obtain ⟨pa, cap, rfl⟩ := hv.shape
            clear hq2 h34 h92
            go_wp2_with (at_builtin; refine wpList_append_slB rfl (.tmp 45) (.tmp 49) 34 rfl w.heap.size Try.underlying34 infoByte rfl rfl (hv.alloc _) (SlB.litB c (Blk.new wr 5 #[.int .u8 c.toNat])) (by rw [HNl.out]; simp [nums]; omega) (by simp; omega) ?_; intro v' w9 hown' hgrow hat)
            have hk3 : Keeps [] w w9 := (hK.alloc _).grown hgrow (fun y hy => .inr (hv.lt y hy).1)
            go_roundw
            case rel => exact ⟨i + 1, out ++ [c], by go_num, by omega, by omega, by simp; omega, HUn.out.trans HQ2.out, by rw [HNu.out]; exact hown', hk3⟩
            case measure => simp [RowKit.intOf]; omega
      · rw [drop_end hi] at HUn
        have hq2 : unq [] false out i = none := rfl
        rw [HUn.out, hq2] at HU2
        clear hq2
        go_wp2_with fail
        refine bodyPost_ret (results_tmp3 rfl _ _ _) rfl ?_
        rw [HU2.out]
        exact ⟨rfl, hK⟩
  · have hu : U = ([], 0, 9) := by
      rw [← HU.out, hd0, unquote, if_neg hq]
    subst hu
    have hne : ((c0.toNat : Int) != 34) = true := by
      have : c0.toNat ≠ 34 := fun h => hq (UInt8.toNat_inj.1 h)
      simp; omega
    clear HU hd0 hc0 hq
    go_enter Try.func24, Try.ntmps24
    go_wp2_with fail
    refine bodyPost_ret (results_tmp3 rfl _ _ _) rfl ?_
    exact ⟨rfl, Keeps.refl _ _⟩
end Go.Proofs.Ytkbelhhimllfnaa
