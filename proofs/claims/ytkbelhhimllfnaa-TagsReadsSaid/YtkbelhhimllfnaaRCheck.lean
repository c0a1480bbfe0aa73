/- The contracts of the reference's Runes, Check, wide and Width. Condition: a text of at most 2000 bytes. -/
import Derived.Test.YtkbelhhimllfnaaRRune
import Derived.Test.YtkbelhhimllfnaaKit2
import Derived.Test.YtkbelhhimllfnaaPartP
namespace Go.Proofs.Ytkbelhhimllfnaa
open Go.RowKit

theorem infoInt' : (Try.prog.info? 3).map (fun i => (i.zero, i.size, i.bytes)) = some (some (.int .i64 0), 1, 8) := by kernel_rfl

/-- Runes as numbers. -/
def ints (rs : List Nat) : List Int := rs.map fun r : Nat => (r : Int)
theorem ints_len (rs : List Nat) : (ints rs).length = rs.length := by simp [ints]
theorem ints_snoc (rs : List Nat) (r : Nat) : ints (rs ++ [r]) = ints rs ++ [(r : Int)] := by simp [ints]
/-- What Runes answers. -/
def RunesPost (o : Option (List Nat)) (w : World) (e : Ending) (w' : World) : Prop := match o with
  | some rs => ∃ v, e = .returned (.tuple #[v, .bool true]) ∧ OwnI w' w.heap.size v (ints rs) ∧ Keeps [] w w'
  | none => e = .returned (.tuple #[.slice none 0 0, .bool false]) ∧ Keeps [] w w'

set_option maxRecDepth 1000000 in
set_option maxHeartbeats 8000000 in
theorem RRunes_ok (s : ByteArray) (hs : s.size ≤ 1000) (w : World) : Calls Try.prog 36 #[.string s] w (RunesPost (runes s.data.toList) w) := by
  have HR := Lib.hid (RRune_ok s (by omega))
  obtain ⟨O, hO⟩ : ∃ O, runes s.data.toList = O := ⟨_, rfl⟩
  rw [hO]
  have HO := Lib.hid hO
  clear hO
  go_enter Try.func36, Try.ntmps36
  go_wp2_with fail
  go_loopw [4, 5] (fun v x wr => ∃ (i : Nat) (done : List Nat), x = .int .i64 i ∧ i ≤ s.size ∧ done.length ≤ i ∧ OwnI wr w.heap.size v (ints done) ∧ O = (runes (s.data.toList.drop i)).map (done ++ ·) ∧ Keeps [] w wr) (fun _ x _ => s.size - (RowKit.intOf x).toNat)
  case atStart => exact ⟨0, [], rfl, Nat.zero_le _, Nat.le_refl _, OwnI.nil _ _, by rw [← HO.out]; simp, Keeps.refl _ _⟩
  case round =>
    obtain ⟨i, done, rfl, hi, hdl, hv, hq, hK⟩ := hrel
    obtain ⟨pa, cap, rfl⟩ := hv.shape
    have HQ := Lib.hid hq
    clear hq
    have hsz := hK.size
    by_cases hi2 : i < s.size
    · have HRi := HR.out i hi2
      have hne := drop_ne hi2
      have hw := Lib.decodeL_width (s.data.toList.drop i)
      have hle := Lib.decodeL_le (s.data.toList.drop i) hne
      rw [List.length_drop, ← Lib.size_eq] at hle
      by_cases hb : Lib.decodeL (s.data.toList.drop i) = (65533, 1)
      · have HB := Lib.hid (runes_bad hne hb)
        rw [hb, RR_err] at HRi
        have HRi2 := Lib.hid HRi
        clear HRi hb hw hle hne
        go_wp2_with fail
        refine (HRi2.out _).mono ?_
        rintro e w' ⟨rfl, rfl⟩
        go_wp2_with fail
        go_ret2
        rw [HQ.out, HB.out]
        exact ⟨rfl, hK⟩
      · have hst := runes_step hne hb
        rw [show RR (Lib.decodeL (s.data.toList.drop i)) = Lib.decodeL (s.data.toList.drop i) by unfold RR; rw [if_neg hb]] at HRi
        rw [List.drop_drop] at hst
        obtain ⟨r, n, hrn⟩ : ∃ r n, Lib.decodeL (s.data.toList.drop i) = (r, n) := ⟨_, _, rfl⟩
        rw [hrn] at HRi hst hw hle
        dsimp only at HRi hst hw hle
        have HRi2 := Lib.hid HRi
        have HSt := Lib.hid hst
        have HSn := Lib.hid (ints_snoc done r)
        have HIl := Lib.hid (ints_len done)
        have hn0 : ((n : Int) == 0) = false := by simp; omega
        clear HRi hst hb hrn hne
        go_wp2_with fail
        refine (HRi2.out _).mono ?_
        rintro e w' ⟨rfl, rfl⟩
        go_wp2_with (at_builtin; refine wpList_append_sl rfl (.tmp 20) (.tmp 22) 25 rfl w.heap.size Try.underlying25 infoInt' rfl rfl (hv.alloc _) (SlI.lit (xs := [(r : Int)]) (Blk.new wr 3 #[.int .i64 r]) rfl (by unfold maxLen; simp)) (by rw [HIl.out]; simp; omega) (by simp; omega) ?_; intro v' w9 hown' hgrow hat)
        have hk3 : Keeps [] w w9 := (hK.alloc _).grown hgrow (fun y hy => .inr (hv.lt y hy).1)
        go_roundw
        case rel =>
          refine ⟨i + n, done ++ [r], by go_num, by omega, by simp; omega, by rw [HSn.out]; exact hown', ?_, hk3⟩
          rw [HQ.out, HSt.out, Option.map_map]
          congr 1
          funext x
          simp
        case measure => simp [RowKit.intOf]; omega
    · have hd := drop_end hi2
      rw [hd, runes_nil, Option.map_some, List.append_nil] at HQ
      clear hd
      go_wp2_with fail
      go_ret2
      rw [HQ.out]
      exact ⟨_, rfl, hv, hK⟩

set_option maxRecDepth 1000000 in
theorem wide_ok (r : Nat) (w : World) : Calls Try.prog 37 #[.int .i64 r] w fun e w' => e = .returned (.int .i64 (placesOf r)) ∧ w = w' := by
  by_cases h : r < 4352
  · have e : placesOf r = 1 := by simp [placesOf, h]
    rw [e]
    go_enter Try.func37, Try.ntmps37
    go_wp2
    go_ret
    exact ⟨rfl, rfl⟩
  · have e : placesOf r = 2 := by simp [placesOf, h]
    rw [e]
    go_enter Try.func37, Try.ntmps37
    go_wp2
    go_ret
    exact ⟨rfl, rfl⟩

/-- A rune of a list that stands in memory. -/
theorem SlI.rune {w : World} {v : Value} {rs : List Nat} (h : SlI w v (ints rs)) (hne : 1 ≤ rs.length) : ∃ b off cap, v = .slice (some ⟨b, off, none⟩) rs.length cap ∧ b < w.heap.size ∧ ∀ i, i < rs.length → w.cell? ⟨b, off + i, none⟩ = some (.int .i64 (rs.getD i 0 : Nat)) := by
  rcases h with ⟨h0, _⟩ | ⟨b, off, cap, hv, _, hb, _, hc⟩
  · have := ints_len rs
    rw [h0] at this
    simp at this
    omega
  · rw [ints_len] at hv hc
    refine ⟨b, off, cap, hv, hb, fun i hi => ?_⟩
    rw [hc i hi]
    simp [ints, List.getD, List.getElem?_eq_getElem hi]

theorem fine_all {rs : List Nat} {k : Nat} (hk : k < rs.length) (h : fine (rs.getD k 0) = false) : rs.all fine = false := by
  rw [List.all_eq_false]
  refine ⟨rs.getD k 0, ?_, by rw [h]; simp⟩
  simp only [List.getD, List.getElem?_eq_getElem hk, Option.getD_some]
  exact List.getElem_mem hk

set_option maxRecDepth 1000000 in
set_option maxHeartbeats 8000000 in
theorem RCheck_ok (s : ByteArray) (hs : s.size ≤ 1000) (w : World) : Calls Try.prog 21 #[.string s] w fun e w' => e = .returned (.int .i64 (tagErr s.data.toList)) ∧ Keeps [] w w' := by
  have HR := RRunes_ok s hs w
  obtain ⟨E, hE⟩ : ∃ E, tagErr s.data.toList = E := ⟨_, rfl⟩
  cases hr : runes s.data.toList with
  | none =>
    rw [hr] at HR
    have he : E = 16 := by rw [← hE, tagErr_none (by unfold allOf; rw [hr]; rfl)]
    have HR2 := Lib.hid (show Calls Try.prog 36 #[.string s] w fun e w' => e = .returned (.tuple #[.slice none 0 0, .bool false]) ∧ Keeps [] w w' from HR)
    rw [hE, he]
    clear hr HR hE he
    go_enter Try.func21, Try.ntmps21
    go_wp2_with fail
    refine HR2.out.mono ?_
    rintro e w' ⟨rfl, hk⟩
    go_wp2_with fail
    go_ret
    exact ⟨rfl, hk⟩
  | some rs =>
    rw [hr] at HR
    have HR2 := Lib.hid (show Calls Try.prog 36 #[.string s] w fun e w' => ∃ v, e = .returned (.tuple #[v, .bool true]) ∧ OwnI w' w.heap.size v (ints rs) ∧ Keeps [] w w' from HR)
    have hAl : allOf fine s.data.toList = if rs.all fine then some rs.length else none := by unfold allOf; rw [hr]; rfl
    have HAl := Lib.hid hAl
    have HE := Lib.hid hE
    have hlen : rs.length ≤ 1000 := by
      have := (encs_len rs).1
      rw [← (runes_some hr).1, ← Lib.size_eq] at this
      omega
    rw [hE]
    clear hr HR hE hAl
    by_cases h1 : 1 ≤ rs.length
    · by_cases h2 : rs.length ≤ 24
      · go_enter Try.func21, Try.ntmps21
        go_wp2_with fail
        refine HR2.out.mono ?_
        rintro e w1 ⟨v, rfl, hv, hk⟩
        obtain ⟨b, off, cap, rfl, hbs, hcell⟩ := SlI.rune (hv.sl (by rw [ints_len]; unfold maxLen; omega)) h1
        clear hv
        go_wp2_with fail
        go_loop [5] (fun x => ∃ k : Nat, x = .int .i64 k ∧ k ≤ rs.length ∧ ∀ j, j < k → fine (rs.getD j 0) = true) (fun x => rs.length - (RowKit.intOf x).toNat)
        case atStart => exact ⟨0, rfl, Nat.zero_le _, by simp⟩
        case round =>
          obtain ⟨k, rfl, hk1, hf⟩ := hrel
          have HF := Lib.hid hf
          clear hf
          by_cases hk2 : k < rs.length
          · have hck := hcell k hk2
            have HFA := Lib.hid (fine_all hk2)
            obtain ⟨r, hr⟩ : ∃ r, rs.getD k 0 = r := ⟨_, rfl⟩
            rw [hr] at hck HFA
            have HRd := Lib.hid hr
            clear hr hcell
            cases hfr : fine r with
            | true =>
              have hff := hfr
              simp only [fine, Bool.and_eq_true, decide_eq_true_eq] at hff
              have r1 : ((r : Int) == 127) = false := by simp; omega
              have r2 : 32 ≤ r := hff.1
              have HFr := Lib.hid hfr
              clear hff hfr
              go_wp2_with fail
              go_round
              case rel =>
                refine ⟨k + 1, by go_num, by omega, fun j hj => ?_⟩
                rcases Nat.lt_or_ge j k with hj2 | hj2
                · exact HF.out j hj2
                · obtain rfl : j = k := by omega
                  rw [HRd.out]
                  exact HFr.out
              case measure => simp [RowKit.intOf]; omega
            | false =>
              have hE16 : E = 16 := by rw [← HE.out, tagErr_none (by rw [HAl.out, HFA.out hfr]; rfl)]
              by_cases r1 : r < 32
              · clear hfr
                go_wp2_with fail
                go_ret
                first | rw [hE16] | skip
                exact ⟨rfl, hk⟩
              · have r2 : r = 127 := by
                  simp only [fine, Bool.and_eq_false_iff, decide_eq_false_iff_not] at hfr
                  omega
                subst r2
                clear hfr
                go_wp2_with fail
                go_ret
                first | rw [hE16] | skip
                exact ⟨rfl, hk⟩
          · have hkl : k = rs.length := by omega
            have hE0 : E = 0 := by
              have hall : rs.all fine = true := by
                rw [List.all_eq_true]
                intro x hx
                obtain ⟨j, hj, rfl⟩ := List.getElem_of_mem hx
                have := HF.out j (by omega)
                simpa [List.getD, List.getElem?_eq_getElem hj] using this
              rw [← HE.out, tagErr_some (n := rs.length) (by rw [HAl.out, hall]; rfl), if_pos ⟨h1, h2⟩]
            clear hcell
            go_wp2_with fail
            go_ret
            first | rw [hE0] | skip
            exact ⟨rfl, hk⟩
      · have hE16 : E = 16 := by
          rw [← HE.out]
          cases hall : rs.all fine with
          | false => rw [tagErr_none (by rw [HAl.out, hall]; rfl)]
          | true => rw [tagErr_some (n := rs.length) (by rw [HAl.out, hall]; rfl), if_neg (by omega)]
        go_enter Try.func21, Try.ntmps21
        go_wp2_with fail
        refine HR2.out.mono ?_
        rintro e w1 ⟨v, rfl, hv, hk⟩
        obtain ⟨b, off, cap, rfl, hbs, hcell⟩ := SlI.rune (hv.sl (by rw [ints_len]; unfold maxLen; omega)) h1
        clear hv hcell
        go_wp2_with fail
        go_ret
        first | rw [hE16] | skip
        exact ⟨rfl, hk⟩
    · have hE16 : E = 16 := by
        rw [← HE.out]
        cases hall : rs.all fine with
        | false => rw [tagErr_none (by rw [HAl.out, hall]; rfl)]
        | true => rw [tagErr_some (n := rs.length) (by rw [HAl.out, hall]; rfl), if_neg (by omega)]
      have h0 : rs.length = 0 := by omega
      go_enter Try.func21, Try.ntmps21
      go_wp2_with fail
      refine HR2.out.mono ?_
      rintro e w1 ⟨v, rfl, hv, hk⟩
      obtain ⟨pa, cap, rfl⟩ := hv.shape
      have hl0 : (ints rs).length = 0 := by rw [ints_len]; exact h0
      rw [hl0]
      clear hv
      go_wp2_with fail
      go_ret
      first | rw [hE16] | skip
      exact ⟨rfl, hk⟩

/-- The reference's Width. -/
theorem RWidth_no (s : ByteArray) (hs : s.size ≤ 1000) (h : tagErr s.data.toList ≠ 0) (w : World) : Calls Try.prog 20 #[.string s] w (IntErr 0 16 w) := by
  have hT : tagErr s.data.toList = 16 := (tagErr_or _).resolve_left h
  have HC := RCheck_ok s hs
  rw [hT] at HC
  have HC := Lib.hid HC
  clear h hT
  go_enter Try.func20, Try.ntmps20
  go_wp2_with fail
  refine (HC.out _).mono ?_
  rintro e w' ⟨rfl, hk⟩
  go_wp2_with fail
  go_ret2
  exact ⟨rfl, hk⟩
set_option maxRecDepth 1000000 in
set_option maxHeartbeats 8000000 in
theorem RWidth_ok (s : ByteArray) (rs : List Nat) (h : TagOf rs s.data.toList) (w : World) : Calls Try.prog 20 #[.string s] w (IntErr (widthOf rs) 0 w) := by
  have hL := h.len
  rw [← Lib.size_eq] at hL
  have HC := RCheck_ok s (by omega)
  rw [tagErr_zero.2 h.isTag] at HC
  have hR := RRunes_ok s (by omega)
  rw [h.runes] at hR
  have HR := Lib.hid (fun w => (show Calls Try.prog 36 #[.string s] w fun e w' => ∃ v, e = .returned (.tuple #[v, .bool true]) ∧ OwnI w' w.heap.size v (ints rs) ∧ Keeps [] w w' from hR w))
  have HC := Lib.hid HC
  have hwl := widthOf_le rs
  have hm := h.most
  have h1 := h.pos
  clear hR h
  go_enter Try.func20, Try.ntmps20
  go_wp2_with fail
  refine (HC.out _).mono ?_
  rintro e w0 ⟨rfl, hk0⟩
  go_wp2_with fail
  refine (HR.out _).mono ?_
  rintro e w1 ⟨v, rfl, hv, hk⟩
  obtain ⟨b, off, cap, rfl, hbs, hcell⟩ := SlI.rune (hv.sl (by rw [ints_len]; unfold maxLen; omega)) h1
  clear hv
  go_wp2_with fail
  go_loop [6, 7] (fun x y => ∃ k : Nat, x = .int .i64 (widthOf (rs.take k)) ∧ y = .int .i64 k ∧ k ≤ rs.length) (fun _ y => rs.length - (RowKit.intOf y).toNat)
  case atStart => exact ⟨0, rfl, rfl, Nat.zero_le _⟩
  case round =>
    obtain ⟨k, rfl, rfl, hk1⟩ := hrel
    by_cases hk2 : k < rs.length
    · have hck := hcell k hk2
      have HTN := Lib.hid (take_next rs hk2)
      have HP := Lib.hid (wide_ok (rs.getD k 0))
      have hw2 : widthOf (rs.take k) ≤ 48 := by
        have := (widthOf_le (rs.take k)).2
        have := List.length_take_le k rs
        omega
      have hpl := placesOf_le (rs.getD k 0)
      obtain ⟨r, hr⟩ : ∃ r, rs.getD k 0 = r := ⟨_, rfl⟩
      rw [hr] at hck HTN HP hpl
      obtain ⟨q, hq⟩ : ∃ q, placesOf r = q := ⟨_, rfl⟩
      rw [hq] at HP hpl
      have HQ := Lib.hid hq
      clear hr hq hcell
      go_wp2_with fail
      refine (HP.out _).mono ?_
      rintro e w' ⟨rfl, rfl⟩
      go_wp2_with fail
      go_round
      case rel =>
        refine ⟨k + 1, ?_, by go_num, by omega⟩
        rw [HTN.out, widthOf_append, widthOf_cons, HQ.out]
        go_num
      case measure => simp [RowKit.intOf]; omega
    · obtain rfl : k = rs.length := by omega
      clear hcell
      rw [List.take_length]
      go_wp2_with fail
      go_ret2
      exact ⟨rfl, hk0.trans hk⟩
end Go.Proofs.Ytkbelhhimllfnaa
