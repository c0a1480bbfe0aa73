/- The contracts of the reference's All, Count, Next, all, Union, Minus, Copy, Add, Remove. Condition: sets that New or Copy made, or nil. -/
import Derived.Test.YtcdnflffpeijfaaDoorRef
import Derived.Test.YtcdnflffpeijfaaDoorStep
namespace Go.Proofs.YtcdnflffpeijfaaDoor
open Go.RowKit

section
variable {c gc n : Nat} {p : Nat → Bool} {w : World}
set_option maxRecDepth 100000 in
set_option maxHeartbeats 1000000 in
theorem RAll_ok (h : RSet w c gc n p) : Calls Tryd.prog 48 #[.pointer (some ⟨c, 0, none⟩)] w (AllPost (picks n p) w) := by
  obtain ⟨cap, h1, h2⟩ := h.row
  have h0 := h.pos
  have hn := h.most
  have HV := Lib.hid (rvalid_yes h1 h.pos)
  have H1 := Lib.hid h1
  have H := Lib.hid h2
  have hcap := h2.cap_
  have l1 := h1.lt
  have l2 := h2.lt
  clear h h1 h2
  go_enter Tryd.func48, Tryd.ntmps48
  go_wp2_with fail
  refine HV.out.mono ?_
  rintro e w' ⟨rfl, rfl⟩
  go_wp2_with fail
  go_loopw [3, 4] (fun v i wr => ∃ k : Nat, i = .int .i64 k ∧ k ≤ n ∧ OwnI wr w.heap.size v (asInts (picks k p)) ∧ Keeps [] w wr) (fun _ i _ => n - (intOf i).toNat)
  case atStart => exact ⟨0, rfl, Nat.zero_le _, OwnI.nil _ _, Keeps.refl _ _⟩
  case round =>
    obtain ⟨k, rfl, hk, hv, hK⟩ := hrel
    obtain ⟨a, c', rfl⟩ := hv.shape
    have hsz := hK.size
    have hL := picks_len_le k p
    rw [← asInts_len] at hL
    have hc := (H1.out.keeps hK (by simp)).cellAt 0 _ rfl
    by_cases hkn : k < n
    · have c0 := (H.out.keeps hK (by simp)).cellAt hkn
      have hkI : (k : Int) < n := by omega
      rcases Bool.eq_false_or_eq_true (p k) with hb | hb
      · have HO := Lib.hid (picks_one hb)
        rw [hb] at c0
        clear hb
        go_wp2_with (at_builtin; refine wpList_append_sl rfl (.tmp 23) (.tmp 25) 28 rfl w.heap.size Tryd.underlying28 Tryd.info3 rfl rfl (hv.alloc _) (SlI.lit (xs := [(k : Int)]) (Blk.new wr 3 #[.int .i64 k]) rfl (by unfold maxLen; simp)) (by simp; omega) (by simp; omega) ?_; intro v' w1 hown' hgrow hat)
        have hk1 : Keeps [] w w1 := (hK.alloc _).grown hgrow (fun y hy => .inr (hv.lt y hy).1)
        rw [← HO.out] at hown'
        go_roundw
        case rel => exact ⟨k + 1, by go_num, by omega, hown', hk1⟩
        case measure => simp [intOf]; omega
      · have HO := Lib.hid (picks_none hb)
        rw [hb] at c0
        clear hb
        go_wp2_with fail
        go_roundw
        case rel => exact ⟨k + 1, by go_num, by omega, by rw [HO.out]; exact hv, hK⟩
        case measure => simp [intOf]; omega
    · obtain rfl : k = n := by omega
      have hkI : ¬ (k : Int) < k := by omega
      go_wp2_with fail
      go_ret
      exact ⟨_, rfl, hv, hK⟩
set_option maxRecDepth 100000 in
theorem RAll_nil (w : World) : Calls Tryd.prog 48 #[.pointer none] w (AllPost [] w) := by
  have HV := Lib.hid (rvalid_nil w)
  go_enter Tryd.func48, Tryd.ntmps48
  go_wp2_with fail
  refine HV.out.mono ?_
  rintro e w' ⟨rfl, rfl⟩
  go_wp2_with fail
  go_ret
  exact ⟨_, rfl, OwnI.nil _ _, Keeps.refl _ _⟩
set_option maxRecDepth 100000 in
theorem RCount_of {q : Option Addr} {L : List Nat} (h : Calls Tryd.prog 48 #[.pointer q] w (AllPost L w)) : Calls Tryd.prog 49 #[.pointer q] w fun e w' => e = .returned (.int .i64 L.length) ∧ Keeps [] w w' := by
  have H := Lib.hid h
  clear h
  go_enter Tryd.func49, Tryd.ntmps49
  go_wp2_with fail
  refine H.out.mono ?_
  rintro e w' ⟨v, rfl, hv, hk⟩
  obtain ⟨a, cc, rfl⟩ := hv.shape
  rw [asInts_len]
  go_wp2_with fail
  go_ret
  exact ⟨rfl, hk⟩
theorem first_filter (fr : Int) : ∀ (L : List Nat) (k : Nat), (∀ x ∈ L.take k, ¬ fr ≤ (x : Int)) → k < L.length → fr ≤ ((L.getD k 0 : Nat) : Int) → firstOf (L.filter fun i : Nat => decide (fr ≤ (i : Int))) = (((L.getD k 0 : Nat) : Int), true)
  | [], k, _, h, _ => by simp at h
  | x :: L, 0, _, _, h => by
    have : fr ≤ (x : Int) := by simpa using h
    rw [List.filter_cons, if_pos (by simpa using this)]
    rfl
  | x :: L, k + 1, h1, h2, h3 => by
    have hx : ¬ fr ≤ (x : Int) := h1 x (by simp)
    rw [List.filter_cons, if_neg (by simpa using hx)]
    have := first_filter fr L k (fun y hy => h1 y (by rw [List.take_succ_cons]; exact List.mem_cons_of_mem _ hy)) (by simpa using h2) (by simpa using h3)
    rw [this]
    simp
theorem none_filter (fr : Int) (L : List Nat) (h : ∀ x ∈ L, ¬ fr ≤ (x : Int)) : firstOf (L.filter fun i : Nat => decide (fr ≤ (i : Int))) = (0, false) := by
  rw [List.filter_eq_nil_iff.2 (fun x hx => by simpa using h x hx)]
  rfl
set_option maxRecDepth 100000 in
set_option maxHeartbeats 1000000 in
theorem RNext_of {q : Option Addr} {L : List Nat} (h : Calls Tryd.prog 48 #[.pointer q] w (AllPost L w)) (fr : Int) (hm : L.length ≤ 4096) : Calls Tryd.prog 47 #[.pointer q, .int .i64 fr] w fun e w' => e = .returned (.tuple #[.int .i64 (firstOf (L.filter fun i : Nat => decide (fr ≤ (i : Int)))).1, .bool (firstOf (L.filter fun i : Nat => decide (fr ≤ (i : Int)))).2]) ∧ Keeps [] w w' := by
  have H := Lib.hid h
  clear h
  go_enter Tryd.func47, Tryd.ntmps47
  go_wp2_with fail
  refine H.out.mono ?_
  rintro e w' ⟨v, rfl, hv, hk⟩
  have HSL := Lib.hid (hv.sl (by rw [asInts_len]; unfold maxLen; omega))
  obtain ⟨a, cc, rfl⟩ := hv.shape
  rw [asInts_len] at hv ⊢
  clear hv
  go_wp2_with fail
  go_loop [7] (fun i => ∃ k : Nat, i = .int .i64 k ∧ k ≤ L.length ∧ Hid (∀ x ∈ L.take k, ¬ fr ≤ (x : Int))) (fun i => L.length - (intOf i).toNat)
  case atStart => exact ⟨0, rfl, Nat.zero_le _, Lib.hid (by simp)⟩
  case round =>
    obtain ⟨k, rfl, hkl, hno⟩ := hrel
    by_cases hkn : k < L.length
    · have hkI : (k : Int) < L.length := by omega
      rcases HSL.out with ⟨h0, _⟩ | ⟨g, off, cap, he, hm, hg, h0, hc⟩
      · have := congrArg List.length h0
        rw [asInts_len] at this
        simp at this
        subst this
        simp at hkn
      · injection he with he1 he2 he3
        subst he1
        have c := hc k (by rw [asInts_len]; exact hkn)
        rw [asInts_at hkn] at c
        clear hc he2 he3 hm h0
        have hff := Lib.hid (first_filter fr L k hno.out hkn)
        have htk : L.take (k + 1) = L.take k ++ [L.getD k 0] := by
          rw [List.take_succ_eq_append_getElem hkn]
          simp [List.getElem?_eq_getElem hkn]
        have HTK := Lib.hid htk
        clear htk
        generalize L.getD k 0 = y at *
        by_cases hfy : fr ≤ (y : Int)
        · have hF := Lib.hid (hff.out hfy)
          go_wp2_with fail
          go_ret2
          rw [hF.out]
          exact ⟨rfl, hk⟩
        · have hno2 := Lib.hid (show ∀ x ∈ L.take (k + 1), ¬ fr ≤ (x : Int) from fun x hx => by
            rw [HTK.out] at hx
            rcases List.mem_append.1 hx with h | h
            · exact hno.out x h
            · simp at h; subst h; exact hfy)
          go_wp2_with fail
          go_round
          case rel => exact ⟨k + 1, by go_num, by omega, hno2⟩
          case measure => simp [intOf]; omega
    · have hkI : ¬ (k : Int) < L.length := by omega
      have hF := Lib.hid (none_filter fr L (fun x hx => hno.out x (by rw [List.take_of_length_le (by omega)]; exact hx)))
      go_wp2_with fail
      go_ret2
      rw [hF.out]
      exact ⟨rfl, hk⟩
set_option maxRecDepth 100000 in
theorem RAdd_of {q : Option Addr} {i x : Int} {R : World → Prop} (h : Calls Tryd.prog 44 #[.pointer q, .int .i64 i, .bool true] w fun e w' => e = .returned (.int .i64 x) ∧ R w') : Calls Tryd.prog 28 #[.pointer q, .int .i64 i] w fun e w' => e = .returned (.int .i64 x) ∧ R w' := by
  have H := Lib.hid h
  clear h
  go_enter Tryd.func28, Tryd.ntmps28
  go_wp2_with fail
  refine H.out.mono ?_
  rintro e w' ⟨rfl, hq⟩
  have HQ := Lib.hid hq
  clear hq
  go_wp2_with fail
  go_ret
  exact ⟨rfl, HQ.out⟩
set_option maxRecDepth 100000 in
theorem RRemove_of {q : Option Addr} {i x : Int} {R : World → Prop} (h : Calls Tryd.prog 44 #[.pointer q, .int .i64 i, .bool false] w fun e w' => e = .returned (.int .i64 x) ∧ R w') : Calls Tryd.prog 29 #[.pointer q, .int .i64 i] w fun e w' => e = .returned (.int .i64 x) ∧ R w' := by
  have H := Lib.hid h
  clear h
  go_enter Tryd.func29, Tryd.ntmps29
  go_wp2_with fail
  refine H.out.mono ?_
  rintro e w' ⟨rfl, hq⟩
  have HQ := Lib.hid hq
  clear hq
  go_wp2_with fail
  go_ret
  exact ⟨rfl, HQ.out⟩
/-- A copy. -/
def RCopyPost (n : Nat) (p : Nat → Bool) (w : World) (e : Ending) (w' : World) : Prop := ∃ c gc, e = .returned (.pointer (some ⟨c, 0, none⟩)) ∧ RSet w' c gc n p ∧ Keeps [] w w' ∧ w.heap.size ≤ c ∧ w.heap.size ≤ gc
set_option maxRecDepth 1000000 in
theorem RCopy_ok (h : RSet w c gc n p) : Calls Tryd.prog 33 #[.pointer (some ⟨c, 0, none⟩)] w (RCopyPost n p w) := by
  obtain ⟨cap, h1, h2⟩ := h.row
  have h0 := h.pos
  have hn := h.most
  have HV := Lib.hid (rvalid_yes h1 h.pos)
  have kA := (Keeps.refl [] w).alloc (.cells #[] 4)
  have h1a := h1.keeps kA (by simp)
  have h2a := h2.keeps kA (by simp)
  have hcap := h2.cap_
  have hlen : ((List.range n).map p).length = n := by simp
  have hsl : SlL (w.alloc (.cells #[] 4)) (.slice (some ⟨gc, 0, none⟩) n cap) ((List.range n).map p) := by
    refine .inr ⟨gc, 0, cap, by rw [hlen], by rw [hlen]; unfold maxLen; omega, h2a.lt, by rw [hlen]; omega, fun i hi => ?_⟩
    rw [hlen] at hi
    rw [Nat.zero_add, h2a.cellAt hi]
    simp [List.getD, hi]
  have hc := h1.cellAt 0 _ rfl
  have hca := h1a.cellAt 0 _ rfl
  have HSL := Lib.hid hsl
  have HLEN := Lib.hid hlen
  clear h h1 h2 h1a h2a hsl hlen
  go_enter Tryd.func33, Tryd.ntmps33
  go_wp2_with fail
  refine HV.out.mono ?_
  rintro e w' ⟨rfl, rfl⟩
  go_wp2_with (at_builtin; refine wpList_append_slL rfl (.tmp 6) (.tmp 10) 25 rfl w.heap.size Tryd.underlying25 Tryd.info4 rfl rfl (OwnL.empty (Blk.new w 4 #[]) (Nat.le_refl _)) HSL.out (by rw [HLEN.out]; simp; omega) (by simp) ?_; intro v' w1 hown' hg hat; obtain ⟨a1, c1, rfl⟩ := hown'.shape)
  go_ret
  rcases hown'.form with ⟨_, hx⟩ | ⟨g', cap', cur, he, hge, hb, hle, hmx, hcs, htk⟩
  · have := congrArg List.length hx
    rw [List.nil_append, HLEN.out] at this
    simp at this
    omega
  · injection he with e1 e2 e3
    subst e1
    rw [List.nil_append] at hle htk
    rw [HLEN.out] at hle htk
    have hk1 : Keeps [] w w1 := kA.grown hg (fun k e => by cases e; exact .inr (Nat.le_refl _))
    have hbn := Blk.new w1 73 #[.slice (some ⟨g', 0, none⟩) n c1]
    refine ⟨w1.heap.size, g', rfl, ⟨⟨c1, hbn, ?_⟩, h0, hn⟩, hk1.alloc _, hk1.size, hge⟩
    have hrow : RowB w1 g' n c1 p := ⟨⟨cur, hb, by omega, fun i hi => by
      have : (cur.toList.take n)[i]? = (((List.range n).map p).map Value.bool)[i]? := by rw [htk]
      rw [List.getElem?_take, if_pos hi, Array.getElem?_toList] at this
      rw [this]
      simp [hi]⟩, by omega, by omega⟩
    exact hrow.keeps ((Keeps.refl [] w1).alloc _) (by simp)
set_option maxRecDepth 100000 in
theorem RCopy_nil (w : World) : Calls Tryd.prog 33 #[.pointer none] w fun e w' => e = .returned (.pointer none) ∧ w = w' := by
  have HV := Lib.hid (rvalid_nil w)
  go_enter Tryd.func33, Tryd.ntmps33
  go_wp2_with fail
  refine HV.out.mono ?_
  rintro e w' ⟨rfl, rfl⟩
  go_wp2_with fail
  go_ret
  exact ⟨rfl, rfl⟩
end
end Go.Proofs.YtcdnflffpeijfaaDoor
