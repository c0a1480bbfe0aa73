/- The contracts of the document's queue: valid, before, find, Len, Next, When, New, Copy. Condition: a queue that New or Copy made. -/
import Derived.Test.YtognnjaefaoefaaREnt
namespace Go.Proofs.Ytognnjaefaoefaa
open Go.RowKit

section
variable {w : World} {b : Nat} {v : Value} {L : List (Int × Int)}
set_option maxRecDepth 100000 in
theorem rvalid_q (h : RQ w b v L) : Calls Try.prog 41 #[.pointer (some ⟨b, 0, none⟩)] w fun e w' => e = .returned (.bool true) ∧ w = w' := by
  have hc := h.blk.cellAt 0 _ rfl
  clear h
  go_enter Try.func41, Try.ntmps41
  go_wp2
  go_ret
  exact ⟨rfl, rfl⟩
set_option maxRecDepth 100000 in
theorem before_q (i a j c : Int) (w : World) : Calls Try.prog 42 #[.agg #[.int .i64 i, .int .i64 a], .agg #[.int .i64 j, .int .i64 c]] w fun e w' => e = .returned (.bool (decide (Bef (i, a) (j, c)))) ∧ Keeps [] w w' := by
  have k := ((Keeps.refl [] w).alloc (.cells #[.int .i64 i, .int .i64 a] 74)).alloc (.cells #[.int .i64 j, .int .i64 c] 74)
  have b1 := (Blk.new w 74 #[.int .i64 i, .int .i64 a]).alloc (.cells #[.int .i64 j, .int .i64 c] 74)
  have b2 := Blk.new (w.alloc (.cells #[.int .i64 i, .int .i64 a] 74)) 74 #[.int .i64 j, .int .i64 c]
  have c0 := b1.cellAt 0 _ rfl
  have c1 := b1.cellAt 1 _ rfl
  have d0 := b2.cellAt 0 _ rfl
  have d1 := b2.cellAt 1 _ rfl
  have HK := Lib.hid k
  clear k b1 b2
  rcases (show a < c ∨ (a = c ∧ i < j) ∨ (a = c ∧ ¬ i < j) ∨ (¬ a < c ∧ ¬ a = c) by omega) with h | ⟨h1, h2⟩ | ⟨h1, h2⟩ | ⟨h1, h2⟩
  · have e : decide (Bef (i, a) (j, c)) = true := decide_eq_true (.inl h)
    rw [e]
    clear e
    go_enter Try.func42, Try.ntmps42
    go_wp2
    go_ret
    exact ⟨rfl, HK.out⟩
  · have e : decide (Bef (i, a) (j, c)) = true := decide_eq_true (.inr ⟨h1, h2⟩)
    rw [e]
    clear e
    subst h1
    go_enter Try.func42, Try.ntmps42
    go_wp2
    go_ret
    exact ⟨rfl, HK.out⟩
  · have e : decide (Bef (i, a) (j, c)) = false := decide_eq_false (by unfold Bef; simp; omega)
    rw [e]
    clear e
    subst h1
    go_enter Try.func42, Try.ntmps42
    go_wp2
    go_ret
    exact ⟨rfl, HK.out⟩
  · have e : decide (Bef (i, a) (j, c)) = false := decide_eq_false (by unfold Bef; simp; omega)
    rw [e]
    clear e
    go_enter Try.func42, Try.ntmps42
    go_wp2
    go_ret
    exact ⟨rfl, HK.out⟩
theorem OwnR.some_ {a : Option Addr} {cap : Nat} (h : OwnR w 0 (.slice a L.length cap) L) {k : Nat} (hk : k < L.length) : ∃ g, a = some ⟨g, 0, none⟩ ∧ RowR w g cap L := by
  rcases h with ⟨_, rfl⟩ | ⟨g, cap', he, _, hr⟩
  · simp at hk
  · injection he with h1 h2 h3
    subst h1 h3
    exact ⟨g, rfl, hr⟩
set_option maxRecDepth 1000000 in
set_option maxHeartbeats 1000000 in
theorem rfind_q (h : RQ w b v L) (id : Int) (hm : L.length ≤ 1000000) : Calls Try.prog 43 #[.pointer (some ⟨b, 0, none⟩), .int .i64 id] w fun e w' => e = .returned (.int .i64 (findI L id)) ∧ w = w' := by
  have hV := Lib.hid (rvalid_q h)
  have hc := h.blk.cellAt 1 _ rfl
  have HO := Lib.hid h.own
  obtain ⟨a0, cap, rfl⟩ := h.own.shape
  clear h
  go_enter Try.func43, Try.ntmps43
  go_wp2_with fail
  go_loopw [5] (fun i wr => ∃ k : Nat, i = .int .i64 k ∧ k ≤ L.length ∧ k ≤ placeOf L id ∧ w = wr) (fun i _ => L.length - (intOf i).toNat)
  case atStart => exact ⟨0, rfl, Nat.zero_le _, Nat.zero_le _, rfl⟩
  case round =>
    obtain ⟨k, rfl, hk, hp, rfl⟩ := hrel
    by_cases hkl : k < L.length
    · obtain ⟨g, rfl, hr⟩ := HO.out.some_ hkl
      obtain ⟨c0, c1⟩ := hr.at_ hkl
      have hcap := hr.len
      have hyes := Lib.hid (place_here (id := id) hkl hp)
      have hno := Lib.hid (place_on (id := id) hkl hp)
      have hkI : (k : Int) < (L.length : Int) := by omega
      clear hr c1
      obtain ⟨i, hi⟩ : ∃ i, (L.getD k (0, 0)).1 = i := ⟨_, rfl⟩
      rw [hi] at c0 hyes hno
      clear hi
      by_cases hi : i = id
      · have hf : findI L id = k := by unfold findI; rw [hyes.out hi, if_pos hkl]
        have HF := Lib.hid hf
        subst hi
        clear hf
        obtain ⟨n, hn⟩ : ∃ n, L.length = n := ⟨_, rfl⟩
        rw [hn] at *
        go_wp2_with fail
        refine hV.out.mono ?_
        rintro e w' ⟨rfl, rfl⟩
        go_wp2_with fail
        go_ret
        rw [HF.out]
        exact ⟨rfl, rfl⟩
      · have hn := hno.out hi
        have hb : (i == id) = false := by simpa using hi
        go_wp2_with fail
        refine hV.out.mono ?_
        rintro e w' ⟨rfl, rfl⟩
        go_wp2_with fail
        go_roundw
        case rel => exact ⟨k + 1, by go_num, by omega, hn, (by first | rfl | trivial)⟩
        case measure => simp [intOf]; omega
    · have hf : findI L id = -1 := by unfold findI; rw [if_neg (by omega)]
      have HF := Lib.hid hf
      have hkI : ¬ (k : Int) < (L.length : Int) := by omega
      clear hf
      go_wp2_with fail
      refine hV.out.mono ?_
      rintro e w' ⟨rfl, rfl⟩
      go_wp2_with fail
      go_ret
      rw [HF.out]
      exact ⟨rfl, rfl⟩
set_option maxRecDepth 100000 in
theorem RLen_q (h : RQ w b v L) : Calls Try.prog 29 #[.pointer (some ⟨b, 0, none⟩)] w fun e w' => e = .returned (.int .i64 L.length) ∧ w = w' := by
  have hV := Lib.hid (rvalid_q h)
  have hc := h.blk.cellAt 1 _ rfl
  obtain ⟨a, cap, rfl⟩ := h.own.shape
  clear h
  go_enter Try.func29, Try.ntmps29
  go_wp2_with fail
  refine hV.out.mono ?_
  rintro e w' ⟨rfl, rfl⟩
  go_wp2_with fail
  go_ret
  exact ⟨rfl, rfl⟩
set_option maxRecDepth 100000 in
theorem RNext_q (h : RQ w b v L) : Calls Try.prog 27 #[.pointer (some ⟨b, 0, none⟩)] w fun e w' => e = .returned (.tuple #[.int .i64 (headQ L).1, .int .i64 (headQ L).2.1, .bool (headQ L).2.2]) ∧ Keeps [] w w' := by
  have hV := Lib.hid (rvalid_q h)
  have hc := h.blk.cellAt 1 _ rfl
  cases L with
  | nil =>
    obtain ⟨a, cap, rfl⟩ := h.own.shape
    clear h
    go_enter Try.func27, Try.ntmps27
    go_wp2_with fail
    refine hV.out.mono ?_
    rintro e w' ⟨rfl, rfl⟩
    go_wp2_with fail
    refine bodyPost_ret (results_tmp3 rfl _ _ _) rfl ?_
    exact ⟨rfl, Keeps.refl _ _⟩
  | cons e0 L =>
    rcases h.own with ⟨_, h0⟩ | ⟨g, cap, rfl, _, hr⟩
    · simp at h0
    · obtain ⟨c0, c1⟩ := hr.at_ (k := 0) (by simp)
      have d0 : w.cell? ⟨g, 0, none⟩ = some (.int .i64 e0.1) := c0
      have d1 : w.cell? ⟨g, 1, none⟩ = some (.int .i64 e0.2) := c1
      have hlen : (e0 :: L).length = L.length + 1 := rfl
      have hcap := hr.len
      rw [hlen] at hc hcap
      clear h hr c0 c1
      go_enter Try.func27, Try.ntmps27
      go_wp2_with fail
      refine hV.out.mono ?_
      rintro e w' ⟨rfl, rfl⟩
      go_wp2_with fail
      go_quiet (fail)
      go_wp2_with fail
      refine bodyPost_ret (results_tmp3 rfl _ _ _) rfl ?_
      exact ⟨rfl, (Keeps.refl [] w).drewN _⟩
set_option maxRecDepth 100000 in
theorem RWhen_q (h : RQ w b v L) (id : Int) (hm : L.length ≤ 1000000) : Calls Try.prog 28 #[.pointer (some ⟨b, 0, none⟩), .int .i64 id] w fun e w' => e = .returned (.tuple #[.int .i64 (whenQ L id).1, .bool (whenQ L id).2]) ∧ w = w' := by
  have hF := Lib.hid (rfind_q h id hm)
  have hc := h.blk.cellAt 1 _ rfl
  have HO := Lib.hid h.own
  obtain ⟨a0, cap, rfl⟩ := h.own.shape
  clear h
  unfold whenQ
  unfold findI at hF
  by_cases hp : placeOf L id < L.length
  · rw [if_pos hp] at hF
    rw [if_pos hp]
    obtain ⟨k, hk⟩ : ∃ k, placeOf L id = k := ⟨_, rfl⟩
    rw [hk] at hF hp ⊢
    obtain ⟨g, rfl, hr⟩ := HO.out.some_ hp
    obtain ⟨c0, c1⟩ := hr.at_ hp
    have hcap := hr.len
    clear hr HO c0 hk
    obtain ⟨a, ha⟩ : ∃ a, (L.getD k (0, 0)).2 = a := ⟨_, rfl⟩
    rw [ha] at c1 ⊢
    clear ha
    generalize L.length = n at *
    go_enter Try.func28, Try.ntmps28
    go_wp2_with fail
    refine hF.out.mono ?_
    rintro e w' ⟨rfl, rfl⟩
    go_wp2_with fail
    go_ret2
    exact ⟨rfl, rfl⟩
  · rw [if_neg hp] at hF
    rw [if_neg hp]
    go_enter Try.func28, Try.ntmps28
    go_wp2_with fail
    refine hF.out.mono ?_
    rintro e w' ⟨rfl, rfl⟩
    go_wp2_with fail
    go_ret2
    exact ⟨rfl, rfl⟩
set_option maxRecDepth 100000 in
theorem RNew_q (w : World) : Calls Try.prog 20 #[] w fun e w' => e = .returned (.pointer (some ⟨w.heap.size, 0, none⟩)) ∧ RQ w' w.heap.size (.slice none 0 0) [] ∧ Keeps [] w w' := by
  have hb := Blk.new w 72 #[.bool true, .slice none 0 0]
  have hk := (Keeps.refl [] w).alloc (.cells #[.bool true, .slice none 0 0] 72)
  go_enter Try.func20, Try.ntmps20
  go_wp2_with fail
  go_ret
  exact ⟨rfl, ⟨hb, OwnR.nil _ _⟩, hk⟩
def RCopyPost (L : List (Int × Int)) (w : World) (e : Ending) (w' : World) : Prop := ∃ b v, e = .returned (.pointer (some ⟨b, 0, none⟩)) ∧ RQ w' b v L ∧ Keeps [] w w' ∧ w.heap.size ≤ b ∧ ∀ x, v.ownBlock = some x → w.heap.size ≤ x
set_option maxRecDepth 1000000 in
set_option maxHeartbeats 1000000 in
theorem RCopy_q (h : RQ w b v L) (hm : L.length ≤ 1000) : Calls Try.prog 26 #[.pointer (some ⟨b, 0, none⟩)] w (RCopyPost L w) := by
  have hV := Lib.hid (rvalid_q h)
  have hc := h.blk.cellAt 1 _ rfl
  obtain ⟨a0, cap, rfl⟩ := h.own.shape
  have kA := (Keeps.refl [] w).alloc (.cells #[] 74)
  have hA := (h.keep0 kA).own
  have hd := (h.keep0 kA).blk.cellAt 1 _ rfl
  have hs := hA.srcT rfl (Nat.le_refl _) cap
  rw [List.take_length] at hs
  have HS := Lib.hid hs
  have HKA := Lib.hid kA
  have HE := Lib.hid (OwnR.empty (B := w.heap.size) (Blk.new w 74 #[]) (Nat.le_refl _))
  clear h hA hs kA
  go_enter Try.func26, Try.ntmps26
  go_wp2_with fail
  refine hV.out.mono ?_
  rintro e w' ⟨rfl, rfl⟩
  go_wp2_with (at_builtin; refine wpList_append_r rfl (.tmp 6) (.tmp 10) rfl (w0 := w) rfl rfl HE.out HS.out (by simp; omega) HKA.out ?_; intro v' w1 ha; obtain ⟨a1, c1, rfl⟩ := ha.own.shape; rw [List.nil_append] at ha ⊢)
  go_ret
  exact ⟨w1.heap.size, _, rfl, ⟨Blk.new w1 72 _, (ha.own.base (fun _ _ => Nat.zero_le _)).keeps ((Keeps.refl [] w1).alloc _) (by simp)⟩, ha.keeps.alloc _, ha.keeps.size, fun x hx => (ha.own.lt x hx).1⟩
end
end Go.Proofs.Ytognnjaefaoefaa
