/- The contracts of valid, find, Len, Next, When, New. Condition: a queue that was made; for those that were not: nil, or a zero one. -/
import Derived.Test.YtognnjaefaoefaaFind
namespace Go.Proofs.Ytognnjaefaoefaa
open Go.RowKit

/-- A queue that was not made. -/
def Bare (w : World) (p : Option Addr) : Prop := p = none ∨ ∃ b, p = some ⟨b, 0, none⟩ ∧ b < w.heap.size ∧ w.cell? ⟨b, 0, none⟩ = some (.bool false)
theorem Bare.keeps {w w' : World} {p : Option Addr} {S : List Nat} (h : Bare w p) (k : Keeps S w w') (hS : ∀ b, p = some ⟨b, 0, none⟩ → b ∉ S) : Bare w' p := by
  rcases h with h | ⟨b, rfl, h1, h2⟩
  · exact .inl h
  · exact .inr ⟨b, rfl, Nat.lt_of_lt_of_le h1 k.size, (k.cell (p := ⟨b, 0, none⟩) h1 (hS b rfl)).trans h2⟩
theorem Bare.keep0 {w w' : World} {p : Option Addr} (h : Bare w p) (k : Keeps [] w w') : Bare w' p := h.keeps k (by simp)
set_option maxRecDepth 100000 in
theorem valid_yes {b : Nat} {v : Value} {w : World} (h : Blk w b 51 #[.bool true, v]) : Calls Try.prog 33 #[.pointer (some ⟨b, 0, none⟩)] w fun e w' => e = .returned (.bool true) ∧ w = w' := by
  have hc := h.cellAt 0 _ rfl
  clear h
  go_enter Try.func33, Try.ntmps33
  go_wp2
  go_ret
  exact ⟨rfl, rfl⟩
set_option maxRecDepth 100000 in
theorem valid_no {p : Option Addr} {w : World} (h : Bare w p) : Calls Try.prog 33 #[.pointer p] w fun e w' => e = .returned (.bool false) ∧ w = w' := by
  rcases h with rfl | ⟨b, rfl, _, hc⟩
  · go_enter Try.func33, Try.ntmps33
    go_wp2
    go_ret
    exact ⟨rfl, rfl⟩
  · go_enter Try.func33, Try.ntmps33
    go_wp2
    go_ret
    exact ⟨rfl, rfl⟩
set_option maxRecDepth 100000 in
theorem is_id {c : Nat} {i a id : Int} {w : World} (h : Blk w c 3 #[.int .i64 id]) : Calls Try.prog 48 #[.agg #[.int .i64 i, .int .i64 a], .pointer (some ⟨c, 0, none⟩)] w fun e w' => e = .returned (.bool (i == id)) ∧ Keeps [] w w' := by
  have k := (Keeps.refl [] w).alloc (.cells #[.int .i64 i, .int .i64 a] 61)
  have hc := (h.keeps k (by simp)).cellAt 0 _ rfl
  clear h
  go_enter Try.func48, Try.ntmps48
  go_wp2
  go_ret
  exact ⟨rfl, k⟩
set_option maxRecDepth 1000000 in
set_option maxHeartbeats 1000000 in
theorem IndexFunc_in {v : Value} {L : List (Int × Int)} {c : Nat} {id : Int} {w : World} (h : OwnE w 0 v L) (hc : Blk w c 3 #[.int .i64 id]) (hm : L.length ≤ 1000000) :
    Calls Try.prog 47 #[v, .func (.func 48) #[] #[.pointer (some ⟨c, 0, none⟩)]] w fun e w' => e = .returned (.int .i64 (findI L id)) ∧ Keeps [] w w' := by
  obtain ⟨a0, cap, rfl⟩ := h.shape
  have e48 := enters_of Try.func48 (by kernel_rfl) rfl
  have HO := Lib.hid h
  have HC := Lib.hid hc
  clear h hc
  go_enter Try.func47, Try.ntmps47
  go_wp2_with fail
  go_loopw [8] (fun i wr => ∃ k : Nat, i = .int .i64 k ∧ k ≤ L.length ∧ k ≤ placeOf L id ∧ Keeps [] w wr) (fun i _ => L.length - (intOf i).toNat)
  case atStart => exact ⟨0, rfl, Nat.zero_le _, Nat.zero_le _, Keeps.refl _ _⟩
  case round =>
    obtain ⟨k, rfl, hk, hp, hK⟩ := hrel
    by_cases hkl : k < L.length
    · rcases HO.out with ⟨_, rfl⟩ | ⟨g, cap', he, _, hr⟩
      · simp at hkl
      · injection he with he1 he2 he3
        subst he1
        obtain ⟨c0, c1⟩ := (hr.keeps hK (by simp)).at_ hkl
        have hI := Lib.hid (is_id (i := (L.getD k (0, 0)).1) (a := (L.getD k (0, 0)).2) (HC.out.keeps hK (by simp)))
        have hyes := Lib.hid (place_here (id := id) hkl hp)
        have hno := Lib.hid (place_on (id := id) hkl hp)
        clear hr he2 he3
        generalize (L.getD k (0, 0)).1 = i at *
        generalize (L.getD k (0, 0)).2 = a at *
        by_cases hi : i = id
        · have hf : findI L id = k := by unfold findI; rw [hyes.out hi, if_pos hkl]
          have HF := Lib.hid hf
          have hb : (i == id) = true := by rw [hi]; exact beq_self_eq_true id
          rw [hb] at hI
          clear hf hb hi
          go_wp2_with fail
          refine hI.out.mono ?_
          rintro e w' ⟨rfl, k1⟩
          go_wp2_with fail
          go_ret
          rw [HF.out]
          exact ⟨rfl, hK.trans k1⟩
        · have hn := hno.out hi
          have hb : (i == id) = false := by simpa using hi
          rw [hb] at hI
          clear hb hi
          go_wp2_with fail
          refine hI.out.mono ?_
          rintro e w' ⟨rfl, k1⟩
          have K1 := hK.trans k1
          go_wp2_with fail
          go_roundw
          case rel => exact ⟨k + 1, by go_num, by omega, hn, K1⟩
          case measure => simp [intOf]; omega
    · have hf : findI L id = -1 := by unfold findI; rw [if_neg (by omega)]
      have HF := Lib.hid hf
      clear hf
      go_wp2_with fail
      go_ret
      rw [HF.out]
      exact ⟨rfl, hK⟩
section
variable {w : World} {b : Nat} {v : Value} {L : List (Int × Int)} {p : Option Addr}
set_option maxRecDepth 100000 in
theorem find_in (h : IsQ w b v L) (id : Int) (hm : L.length ≤ 1000000) : Calls Try.prog 34 #[.pointer (some ⟨b, 0, none⟩), .int .i64 id] w fun e w' => e = .returned (.int .i64 (findI L id)) ∧ Keeps [] w w' := by
  have k := (Keeps.refl [] w).alloc (.cells #[.int .i64 id] 3)
  have h1 := h.keep0 k
  have hV := Lib.hid (valid_yes h1.blk)
  have hI := Lib.hid (IndexFunc_in h1.own (Blk.new w 3 #[.int .i64 id]) hm)
  have hc := h1.blk.cellAt 1 _ rfl
  obtain ⟨a, cap, rfl⟩ := h.own.shape
  clear h h1
  go_enter Try.func34, Try.ntmps34
  go_wp2_with fail
  refine hV.out.mono ?_
  rintro e w' ⟨rfl, rfl⟩
  go_wp2_with fail
  refine hI.out.mono ?_
  rintro e w' ⟨rfl, k1⟩
  go_wp2_with fail
  go_ret
  exact ⟨rfl, k.trans k1⟩
set_option maxRecDepth 100000 in
theorem find_bare (h : Bare w p) (id : Int) : Calls Try.prog 34 #[.pointer p, .int .i64 id] w fun e w' => e = .returned (.int .i64 (-1)) ∧ Keeps [] w w' := by
  have k := (Keeps.refl [] w).alloc (.cells #[.int .i64 id] 3)
  have hV := Lib.hid (valid_no (h.keep0 k))
  clear h
  go_enter Try.func34, Try.ntmps34
  go_wp2_with fail
  refine hV.out.mono ?_
  rintro e w' ⟨rfl, rfl⟩
  go_wp2_with fail
  go_ret
  exact ⟨rfl, k⟩
set_option maxRecDepth 100000 in
theorem Len_in (h : IsQ w b v L) : Calls Try.prog 14 #[.pointer (some ⟨b, 0, none⟩)] w fun e w' => e = .returned (.int .i64 L.length) ∧ w = w' := by
  have hV := Lib.hid (valid_yes h.blk)
  have hc := h.blk.cellAt 1 _ rfl
  obtain ⟨a, cap, rfl⟩ := h.own.shape
  clear h
  go_enter Try.func14, Try.ntmps14
  go_wp2_with fail
  refine hV.out.mono ?_
  rintro e w' ⟨rfl, rfl⟩
  go_wp2_with fail
  go_ret
  exact ⟨rfl, rfl⟩
set_option maxRecDepth 100000 in
theorem Len_bare (h : Bare w p) : Calls Try.prog 14 #[.pointer p] w fun e w' => e = .returned (.int .i64 0) ∧ w = w' := by
  have hV := Lib.hid (valid_no h)
  clear h
  go_enter Try.func14, Try.ntmps14
  go_wp2_with fail
  refine hV.out.mono ?_
  rintro e w' ⟨rfl, rfl⟩
  go_wp2_with fail
  go_ret
  exact ⟨rfl, rfl⟩
set_option maxRecDepth 100000 in
theorem New_in (w : World) : Calls Try.prog 15 #[] w fun e w' => e = .returned (.pointer (some ⟨w.heap.size, 0, none⟩)) ∧ IsQ w' w.heap.size (.slice none 0 0) [] ∧ Keeps [] w w' := by
  have hb := Blk.new w 51 #[.bool true, .slice none 0 0]
  have hk := (Keeps.refl [] w).alloc (.cells #[.bool true, .slice none 0 0] 51)
  go_enter Try.func15, Try.ntmps15
  go_wp2_with fail
  go_ret
  exact ⟨rfl, ⟨hb, OwnE.nil _ _⟩, hk⟩
/-- What Next returns. -/
def headQ (L : List (Int × Int)) : Int × Int × Bool := match L with
  | [] => (0, 0, false)
  | e :: _ => (e.1, e.2, true)
set_option maxRecDepth 100000 in
theorem Next_in (h : IsQ w b v L) : Calls Try.prog 17 #[.pointer (some ⟨b, 0, none⟩)] w fun e w' => e = .returned (.tuple #[.int .i64 (headQ L).1, .int .i64 (headQ L).2.1, .bool (headQ L).2.2]) ∧ Keeps [] w w' := by
  have hV := Lib.hid (valid_yes h.blk)
  have hc := h.blk.cellAt 1 _ rfl
  rcases h.own with ⟨rfl, rfl⟩ | ⟨g, cap, rfl, _, hr⟩
  · clear h
    go_enter Try.func17, Try.ntmps17
    go_wp2_with fail
    refine hV.out.mono ?_
    rintro e w' ⟨rfl, rfl⟩
    go_wp2_with fail
    refine bodyPost_ret (results_tmp3 rfl _ _ _) rfl ?_
    exact ⟨rfl, Keeps.refl _ _⟩
  · cases L with
    | nil =>
      clear h hr
      go_enter Try.func17, Try.ntmps17
      go_wp2_with fail
      refine hV.out.mono ?_
      rintro e w' ⟨rfl, rfl⟩
      go_wp2_with fail
      refine bodyPost_ret (results_tmp3 rfl _ _ _) rfl ?_
      exact ⟨rfl, Keeps.refl _ _⟩
    | cons e0 L =>
      obtain ⟨c0, c1⟩ := hr.at_ (k := 0) (by simp)
      have d0 : w.cell? ⟨g, 0, none⟩ = some (.int .i64 e0.1) := c0
      have d1 : w.cell? ⟨g, 1, none⟩ = some (.int .i64 e0.2) := c1
      have hlen : (e0 :: L).length = L.length + 1 := rfl
      have hcap := hr.len
      rw [hlen] at hc hcap
      clear h hr c0 c1
      go_enter Try.func17, Try.ntmps17
      go_wp2_with fail
      refine hV.out.mono ?_
      rintro e w' ⟨rfl, rfl⟩
      go_wp2_with fail
      go_quiet (fail)
      go_wp2_with fail
      refine bodyPost_ret (results_tmp3 rfl _ _ _) rfl ?_
      exact ⟨rfl, (Keeps.refl [] w).drewN _⟩
set_option maxRecDepth 100000 in
theorem Next_bare (h : Bare w p) : Calls Try.prog 17 #[.pointer p] w fun e w' => e = .returned (.tuple #[.int .i64 0, .int .i64 0, .bool false]) ∧ w = w' := by
  have hV := Lib.hid (valid_no h)
  clear h
  go_enter Try.func17, Try.ntmps17
  go_wp2_with fail
  refine hV.out.mono ?_
  rintro e w' ⟨rfl, rfl⟩
  go_wp2_with fail
  refine bodyPost_ret (results_tmp3 rfl _ _ _) rfl ?_
  exact ⟨rfl, rfl⟩
/-- What When returns. -/
def whenQ (L : List (Int × Int)) (id : Int) : Int × Bool := if placeOf L id < L.length then ((L.getD (placeOf L id) (0, 0)).2, true) else (0, false)
set_option maxRecDepth 100000 in
theorem When_in (h : IsQ w b v L) (id : Int) (hm : L.length ≤ 1000000) : Calls Try.prog 19 #[.pointer (some ⟨b, 0, none⟩), .int .i64 id] w fun e w' => e = .returned (.tuple #[.int .i64 (whenQ L id).1, .bool (whenQ L id).2]) ∧ Keeps [] w w' := by
  have hF := Lib.hid (find_in h id hm)
  have HQ := Lib.hid h
  clear h
  unfold whenQ
  unfold findI at hF
  by_cases hp : placeOf L id < L.length
  · rw [if_pos hp] at hF
    rw [if_pos hp]
    generalize placeOf L id = k at *
    go_enter Try.func19, Try.ntmps19
    go_wp2_with fail
    refine hF.out.mono ?_
    rintro e w1 ⟨rfl, k1⟩
    have hq := HQ.out.keep0 k1
    have hc := hq.blk.cellAt 1 _ rfl
    rcases hq.own with ⟨rfl, rfl⟩ | ⟨g, cap, rfl, _, hr⟩
    · simp at hp
    · obtain ⟨c0, c1⟩ := hr.at_ hp
      have hcap := hr.len
      clear hq hr HQ hF
      obtain ⟨a, ha⟩ : ∃ a, (L.getD k (0, 0)).2 = a := ⟨_, rfl⟩
      rw [ha] at c1
      have HA := Lib.hid ha
      clear ha c0
      generalize L.length = n at *
      go_wp2_with fail
      go_ret2
      rw [HA.out]
      exact ⟨rfl, k1⟩
  · rw [if_neg hp] at hF
    rw [if_neg hp]
    go_enter Try.func19, Try.ntmps19
    go_wp2_with fail
    refine hF.out.mono ?_
    rintro e w1 ⟨rfl, k1⟩
    go_wp2_with fail
    go_ret2
    exact ⟨rfl, k1⟩
set_option maxRecDepth 100000 in
theorem When_bare (h : Bare w p) (id : Int) : Calls Try.prog 19 #[.pointer p, .int .i64 id] w fun e w' => e = .returned (.tuple #[.int .i64 0, .bool false]) ∧ Keeps [] w w' := by
  have hF := Lib.hid (find_bare h id)
  clear h
  go_enter Try.func19, Try.ntmps19
  go_wp2_with fail
  refine hF.out.mono ?_
  rintro e w1 ⟨rfl, k1⟩
  go_wp2_with fail
  go_ret2
  exact ⟨rfl, k1⟩
end
end Go.Proofs.Ytognnjaefaoefaa
