/- The contracts of the reference's Cut, Quote and Plain. Condition: a text of at most 500 bytes. -/
import Derived.Test.YtkbelhhimllfnaaRCheck
import Derived.Test.YtkbelhhimllfnaaRestP
import Derived.Test.YtkbelhhimllfnaaKitB
namespace Go.Proofs.Ytkbelhhimllfnaa
open Go.RowKit

theorem RCut_no (s : ByteArray) (hs : s.size ≤ 500) (n : Int) (h : tagErr s.data.toList ≠ 0) (w : World) : Calls Try.prog 25 #[.string s, .int .i64 n] w (StrErr [] 16 w) := by
  have hT : tagErr s.data.toList = 16 := (tagErr_or _).resolve_left h
  have HC := RCheck_ok s (by omega)
  rw [hT] at HC
  have HC := Lib.hid HC
  clear h hT
  go_enter Try.func25, Try.ntmps25
  go_wp2_with fail
  refine (HC.out _).mono ?_
  rintro e w' ⟨rfl, hk⟩
  go_wp2_with fail
  go_ret2
  exact ⟨rfl, hk⟩
theorem RCut_neg (s : ByteArray) (hs : s.size ≤ 500) (n : Int) (h : tagErr s.data.toList = 0) (hn : n < 0) (w : World) : Calls Try.prog 25 #[.string s, .int .i64 n] w (StrErr [] 2 w) := by
  have HC := RCheck_ok s (by omega)
  rw [h] at HC
  have HC := Lib.hid HC
  clear h
  go_enter Try.func25, Try.ntmps25
  go_wp2_with fail
  refine (HC.out _).mono ?_
  rintro e w' ⟨rfl, hk⟩
  go_wp2_with fail
  go_ret2
  exact ⟨rfl, hk⟩

set_option maxRecDepth 1000000 in
set_option maxHeartbeats 8000000 in
theorem RCut_ok (s : ByteArray) (n : Int) (rs : List Nat) (h : TagOf rs s.data.toList) (hn : 0 ≤ n) (hn2 : n ≤ 9223372036854775807) (w : World) : Calls Try.prog 25 #[.string s, .int .i64 n] w (StrErr (encs (cutOf rs n)) 0 w) := by
  have HL := h.len
  rw [← Lib.size_eq] at HL
  have HC := RCheck_ok s (by omega)
  rw [tagErr_zero.2 h.isTag] at HC
  have HC := Lib.hid HC
  have HT := Lib.hid h.text
  have HS := Lib.hid h.sc
  have hm := h.most
  have HR := Lib.hid (RRune_ok s (by omega))
  clear h
  go_enter Try.func25, Try.ntmps25
  go_wp2_with fail
  refine (HC.out _).mono ?_
  rintro e w1 ⟨rfl, hk1⟩
  clear HC
  go_wp2_with fail
  go_loop [6, 7] (fun x y => ∃ (done rest : List Nat), rs = done ++ rest ∧ x = .int .i64 ((encs done).length : Nat) ∧ y = .int .i64 (widthOf done) ∧ (widthOf done : Int) ≤ n ∧ cutOf rs n = done ++ cutOf rest (n - widthOf done)) (fun x _ => s.size - (RowKit.intOf x).toNat)
  case atStart => exact ⟨[], rs, rfl, rfl, rfl, hn, by simp⟩
  case round =>
    obtain ⟨done, rest, hd, rfl, rfl, hwn, hcut⟩ := hrel
    have HD := Lib.hid hd
    have HCut := Lib.hid hcut
    have hwd : widthOf done ≤ 48 := by
      have := (widthOf_le done).2
      rw [hd, List.length_append] at hm
      omega
    clear hd hcut
    cases rest with
    | nil =>
      have hp : ¬ (encs done).length < s.size := text_end (by rw [HT.out, HD.out, List.append_nil])
      have hpe : (encs done).length = s.size := by rw [Lib.size_eq, HT.out, HD.out, List.append_nil]
      have hpre : s = ⟨(encs done).toArray⟩ := ba_eq (by rw [HT.out, HD.out, List.append_nil])
      rw [hpe]
      have HPre := Lib.hid hpre
      clear hpre hp hpe
      go_wp2_with fail
      go_ret2
      refine ⟨?_, hk1⟩
      rw [HCut.out]
      rw [show cutOf [] (n - widthOf done) = [] from rfl, List.append_nil]
      exact congrArg (fun x => Ending.returned (.tuple #[.string x, .int .i64 0])) HPre.out
    | cons r rest =>
      have hdr := HT.out
      rw [HD.out] at hdr
      have hsr := HS.out r (by rw [HD.out]; simp)
      obtain ⟨hp, hdec⟩ := rune_at hdr hsr
      have hpre := pre_text (s := s) (done := done) (rest := r :: rest) hdr
      have HPre := Lib.hid hpre
      have hRi := HR.out (encs done).length hp
      have hne : Lib.decodeL (s.data.toList.drop (encs done).length) ≠ (65533, 1) := by
        rw [hdr, encs_append, List.drop_left, encs_cons]
        exact decode_enc_ne r hsr _
      rw [show RR (Lib.decodeL (s.data.toList.drop (encs done).length)) = (r, (enc r).length) by unfold RR; rw [if_neg hne, Lib.decodeL_drop, hdec]] at hRi
      have HRi := Lib.hid hRi
      have hl := enc_len r
      have hpl := placesOf_le r
      have HP := Lib.hid (wide_ok r)
      have hstep : cutOf (r :: rest) (n - widthOf done) = if n - widthOf done - placesOf r < 0 then [] else r :: cutOf rest (n - widthOf done - placesOf r) := rfl
      have HW := Lib.hid (show widthOf (done ++ [r]) = widthOf done + placesOf r by rw [widthOf_append, widthOf_cons]; rfl)
      have HE := Lib.hid (show (encs (done ++ [r])).length = (encs done).length + (enc r).length by rw [encs_snoc, List.length_append])
      obtain ⟨q, hq⟩ : ∃ q, placesOf r = q := ⟨_, rfl⟩
      rw [hq] at hpl HP hstep HW
      clear hdec hq hdr hRi hne hpre
      generalize hpos : (encs done).length = p at *
      generalize hwide : widthOf done = wd at *
      by_cases hcq : n < wd + q
      · rw [if_pos (by omega)] at hstep
        have HSt := Lib.hid hstep
        clear hstep
        go_wp2_with fail
        refine (HRi.out _).mono ?_
        rintro e W' ⟨rfl, rfl⟩
        go_wp2_with fail
        refine (HP.out _).mono ?_
        rintro e W' ⟨rfl, rfl⟩
        go_wp2_with fail
        go_ret2
        refine ⟨?_, hk1⟩
        rw [HCut.out, HSt.out, List.append_nil]
        exact congrArg (fun x => Ending.returned (.tuple #[.string x, .int .i64 0])) HPre.out
      · rw [if_neg (by omega)] at hstep
        have HSt := Lib.hid hstep
        clear hstep
        go_wp2_with fail
        refine (HRi.out _).mono ?_
        rintro e W' ⟨rfl, rfl⟩
        go_wp2_with fail
        refine (HP.out _).mono ?_
        rintro e W' ⟨rfl, rfl⟩
        go_wp2_with fail
        go_round
        case rel =>
          refine ⟨done ++ [r], rest, by rw [HD.out]; simp, by rw [HE.out]; go_num, by rw [HW.out]; go_num, by rw [HW.out]; omega, ?_⟩
          rw [HCut.out, HSt.out, HW.out, show n - ((wd + q : Nat) : Int) = n - wd - q by omega]
          simp
        case measure => simp [RowKit.intOf]; omega

theorem RQuote_no (s : ByteArray) (hs : s.size ≤ 500) (h : tagErr s.data.toList ≠ 0) (w : World) : Calls Try.prog 19 #[.string s] w (StrErr [] 16 w) := by
  have hT : tagErr s.data.toList = 16 := (tagErr_or _).resolve_left h
  have HC := RCheck_ok s (by omega)
  rw [hT] at HC
  have HC := Lib.hid HC
  clear h hT
  go_enter Try.func19, Try.ntmps19
  go_wp2_with fail
  refine (HC.out _).mono ?_
  rintro e w' ⟨rfl, hk⟩
  go_wp2_with fail
  go_ret2
  exact ⟨rfl, hk⟩

set_option maxRecDepth 1000000 in
set_option maxHeartbeats 8000000 in
theorem RQuote_ok (s : ByteArray) (h : isTag s.data.toList = true) (w : World) : Calls Try.prog 19 #[.string s] w (StrErr (quoteOf s.data.toList) 0 w) := by
  have HL := (isTag_len h)
  rw [← Lib.size_eq] at HL
  have HC := RCheck_ok s (by omega)
  rw [tagErr_zero.2 h] at HC
  have HC := Lib.hid HC
  have HQ := Lib.hid (show quoteOf s.data.toList = (34 :: escs s.data.toList) ++ [34] from rfl)
  clear h
  go_enter Try.func19, Try.ntmps19
  go_wp2_with fail
  refine (HC.out _).mono ?_
  rintro e w1 ⟨rfl, hk1⟩
  clear HC
  have hsz1 := hk1.size
  have hv0 : OwnB (w1.alloc (.cells #[.int .u8 34] 5)) w.heap.size (.slice (some ⟨w1.heap.size, 0, none⟩) 1 1) (nums [34]) := by
    refine ⟨by simp [nums], .inr ⟨w1.heap.size, 1, #[.int .u8 34], by simp [nums], hsz1, ?_, ?_⟩⟩
    · exact Blk.new w1 5 #[.int .u8 34]
    · simp [nums, maxLen]
  have hk2 : Keeps [] w (w1.alloc (.cells #[.int .u8 34] 5)) := hk1.alloc _
  have HV0 := Lib.hid hv0
  have HK2 := Lib.hid hk2
  clear hv0 hk2
  go_wp2_with fail
  go_loopw [4, 5] (fun v x wr => ∃ (i : Nat), x = .int .i64 i ∧ i ≤ s.size ∧ OwnB wr w.heap.size v (nums (34 :: escs (s.data.toList.take i))) ∧ Keeps [] w wr) (fun _ x _ => s.size - (RowKit.intOf x).toNat)
  case atStart => exact ⟨0, rfl, Nat.zero_le _, HV0.out, HK2.out⟩
  case round =>
    obtain ⟨i, rfl, hi, hv, hK⟩ := hrel
    have hsz := hK.size
    have hlen : (34 :: escs (s.data.toList.take i)).length ≤ 200 := by
      have e1 := escs_len (s.data.toList.take i)
      have e2 : (s.data.toList.take i).length ≤ 96 := by rw [List.length_take, ← Lib.size_eq]; omega
      simp only [List.length_cons]
      omega
    have HNl := Lib.hid (nums_len (34 :: escs (s.data.toList.take i)))
    by_cases hi2 : i < s.size
    · obtain ⟨c, hc⟩ : ∃ c, s[i] = c := ⟨_, rfl⟩
      have hc8 := c.toNat_lt
      have hcc : ∀ h, (s[i]'h).toNat = c.toNat := fun h => by rw [hc]
      have htk : s.data.toList.take (i + 1) = s.data.toList.take i ++ [c] := by
        rw [List.take_succ_eq_append_getElem (by rw [← Lib.size_eq]; exact hi2), ← hc]
        rfl
      have c34 : (c = 34) ↔ c.toNat = 34 := ⟨fun h => by rw [h]; rfl, fun h => UInt8.toNat_inj.1 h⟩
      have c92 : (c = 92) ↔ c.toNat = 92 := ⟨fun h => by rw [h]; rfl, fun h => UInt8.toNat_inj.1 h⟩
      have hes : escs (s.data.toList.take (i + 1)) = escs (s.data.toList.take i) ++ escB c := by rw [htk, escs_append]; simp [escs]
      clear hc htk
      generalize escs (s.data.toList.take i) = acc at *
      by_cases hq : c.toNat = 34 ∨ c.toNat = 92
      · have HES := Lib.hid (show 34 :: escs (s.data.toList.take (i + 1)) = ((34 :: acc) ++ [92]) ++ [c] by
          rw [hes]
          unfold escB
          rw [if_pos (by rw [c34, c92]; exact hq)]
          simp)
        have HN1 := Lib.hid (nums_append (34 :: acc) [92])
        have HN2 := Lib.hid (nums_append ((34 :: acc) ++ [92]) [c])
        have HNl2 := Lib.hid (nums_len ((34 :: acc) ++ [92]))
        clear hes c34 c92
        obtain ⟨pa, cap, rfl⟩ := hv.shape
        by_cases hq2 : c.toNat = 34
        · have e1 : ((c.toNat : Int) == 34) = true := by simp; omega
          clear hq hq2
          go_wp2_with (at_builtin; first | (refine wpList_append_slB rfl (.tmp 26) (.tmp 27) 34 rfl w.heap.size Try.underlying34 infoByte rfl rfl (hv.alloc _) (SlB.litB 92 (Blk.new wr 5 #[.int .u8 92])) (by rw [HNl.out]; simp [nums] at *; omega) (by simp; omega) ?_; intro v8 w8 hown8 hgrow8 hat8; have hk8 : Keeps [] w w8 := (hK.alloc _).grown hgrow8 (fun y hy => .inr (hv.lt y hy).1); have hsz8 := hk8.size; rw [← HN1.out] at hown8; have hsh8 := hown8.shape; obtain ⟨pa8, cap8, rfl⟩ := hsh8) | (refine wpList_append_slB rfl (.tmp 29) (.tmp 33) 34 rfl w.heap.size Try.underlying34 infoByte rfl rfl (hown8.alloc _) (SlB.litB c (Blk.new w8 5 #[.int .u8 c.toNat])) (by rw [HNl2.out]; simp [nums] at *; omega) (by simp; omega) ?_; intro v9 w9 hown9 hgrow9 hat9))
          have hk9 : Keeps [] w w9 := (hk8.alloc _).grown hgrow9 (fun y hy => .inr (hown8.lt y hy).1)
          go_roundw
          case rel => exact ⟨i + 1, by go_num, by omega, by rw [HES.out, HN2.out]; exact hown9, hk9⟩
          case measure => simp [RowKit.intOf]; omega
        · have e1 : ((c.toNat : Int) == 34) = false := by simp; omega
          have e2 : ((c.toNat : Int) == 92) = true := by simp; omega
          clear hq hq2
          go_wp2_with (at_builtin; first | (refine wpList_append_slB rfl (.tmp 26) (.tmp 27) 34 rfl w.heap.size Try.underlying34 infoByte rfl rfl (hv.alloc _) (SlB.litB 92 (Blk.new wr 5 #[.int .u8 92])) (by rw [HNl.out]; simp [nums] at *; omega) (by simp; omega) ?_; intro v8 w8 hown8 hgrow8 hat8; have hk8 : Keeps [] w w8 := (hK.alloc _).grown hgrow8 (fun y hy => .inr (hv.lt y hy).1); have hsz8 := hk8.size; rw [← HN1.out] at hown8; have hsh8 := hown8.shape; obtain ⟨pa8, cap8, rfl⟩ := hsh8) | (refine wpList_append_slB rfl (.tmp 29) (.tmp 33) 34 rfl w.heap.size Try.underlying34 infoByte rfl rfl (hown8.alloc _) (SlB.litB c (Blk.new w8 5 #[.int .u8 c.toNat])) (by rw [HNl2.out]; simp [nums] at *; omega) (by simp; omega) ?_; intro v9 w9 hown9 hgrow9 hat9))
          have hk9 : Keeps [] w w9 := (hk8.alloc _).grown hgrow9 (fun y hy => .inr (hown8.lt y hy).1)
          go_roundw
          case rel => exact ⟨i + 1, by go_num, by omega, by rw [HES.out, HN2.out]; exact hown9, hk9⟩
          case measure => simp [RowKit.intOf]; omega
      · have HES := Lib.hid (show 34 :: escs (s.data.toList.take (i + 1)) = (34 :: acc) ++ [c] by
          rw [hes]
          unfold escB
          rw [if_neg (by rw [c34, c92]; exact hq)]
          simp)
        have HN1 := Lib.hid (nums_append (34 :: acc) [c])
        have e1 : ((c.toNat : Int) == 34) = false := by simp; omega
        have e2 : ((c.toNat : Int) == 92) = false := by simp; omega
        clear hes c34 c92 hq
        obtain ⟨pa, cap, rfl⟩ := hv.shape
        go_wp2_with (at_builtin; refine wpList_append_slB rfl (.tmp 29) (.tmp 33) 34 rfl w.heap.size Try.underlying34 infoByte rfl rfl (hv.alloc _) (SlB.litB c (Blk.new wr 5 #[.int .u8 c.toNat])) (by rw [HNl.out]; simp [nums] at *; omega) (by simp; omega) ?_; intro v9 w9 hown9 hgrow9 hat9)
        have hk9 : Keeps [] w w9 := (hK.alloc _).grown hgrow9 (fun y hy => .inr (hv.lt y hy).1)
        go_roundw
        case rel => exact ⟨i + 1, by go_num, by omega, by rw [HES.out, HN1.out]; exact hown9, hk9⟩
        case measure => simp [RowKit.intOf]; omega
    · have hi3 : s.data.toList.take i = s.data.toList := List.take_of_length_le (by rw [← Lib.size_eq]; omega)
      rw [hi3] at hv HNl hlen
      have HN1 := Lib.hid (nums_append (34 :: escs s.data.toList) [34])
      generalize escs s.data.toList = acc at *
      obtain ⟨pa, cap, rfl⟩ := hv.shape
      clear hi3
      go_wp2_with (at_builtin; refine wpList_append_slB rfl (.tmp 35) (.tmp 36) 34 rfl w.heap.size Try.underlying34 infoByte rfl rfl (hv.alloc _) (SlB.litB 34 (Blk.new wr 5 #[.int .u8 34])) (by rw [HNl.out]; simp [nums] at *; omega) (by simp; omega) ?_; intro v9 w9 hown9 hgrow9 hat9; rw [← HN1.out] at hown9; have hconv := run_text (P := Try.prog) hown9 (by unfold maxLen; simp at *; omega) 34 9 5 Try.underlying34 Try.underlying5 Try.underlying9; have hk9 : Keeps [] w w9 := (hK.alloc _).grown hgrow9 (fun y hy => .inr (hv.lt y hy).1))
      go_ret2
      rw [HQ.out]
      exact ⟨rfl, hk9⟩
end Go.Proofs.Ytkbelhhimllfnaa
