/- The contract of the document's Due. Condition: a queue that New or Copy made. Printed by gen-rdue.py. -/
import Derived.Test.YtognnjaefaoefaaRDrop
import Derived.Deep.LoopGhost
namespace Go.Proofs.Ytognnjaefaoefaa
open Go.RowKit

def RDuePost (b : Nat) (v : Value) (L : List (Int × Int)) (now : Int) (w : World) (e : Ending) (w' : World) : Prop :=
  ∃ o, e = .returned o ∧ OwnI w' w.heap.size o (idsOf (L.take (dueN L now))) ∧ RTurned w w' b v (L.drop (dueN L now)) 
theorem ids_next (L : List (Int × Int)) {k : Nat} {e : Int × Int} {M : List (Int × Int)} (h : L.drop k = e :: M) : idsOf (L.take (k + 1)) = idsOf (L.take k) ++ [e.1] := by
  have h1 : L.take (k + 1) = L.take k ++ (L.drop k).take 1 := by rw [← List.take_add]
  rw [h1, h]
  unfold idsOf
  rw [List.map_append]
  rfl
theorem drop_next (L : List (Int × Int)) {k : Nat} {e : Int × Int} {M : List (Int × Int)} (h : L.drop k = e :: M) : L.drop (k + 1) = M := by
  rw [← List.drop_drop, h]
  rfl
theorem getD_drop (L : List (Int × Int)) {k : Nat} {e : Int × Int} {M : List (Int × Int)} (h : L.drop k = e :: M) : k < L.length ∧ L.getD k (0, 0) = e := by
  have hk : k < L.length := by
    rcases Nat.lt_or_ge k L.length with h1 | h1
    · exact h1
    · rw [List.drop_of_length_le h1] at h; cases h
  refine ⟨hk, ?_⟩
  have := congrArg (fun l => l[0]?) h
  simp only [List.getElem?_drop, Nat.add_zero, List.getElem?_cons_zero] at this
  rw [List.getD_eq_getElem?_getD, this]
  rfl
theorem RQ.store {w w' : World} {b : Nat} {v' : Value} {M : List (Int × Int)} (hb : b < w.heap.size) {x : Value} (hblk : Blk w b 72 #[.bool true, x]) (hk : Keeps [] w w') (ho : OwnR w' w.heap.size v' M) :
    RQ (w'.setCell ⟨b, 1, none⟩ v') b v' M ∧ Keeps [b] w (w'.setCell ⟨b, 1, none⟩ v') ∧ ∀ x, v'.ownBlock = some x → w.heap.size ≤ x := by
  have k7 := (Keeps.refl [b] w').setCell (p := ⟨b, 1, none⟩) (.inl (by simp)) v'
  refine ⟨⟨(hblk.keeps hk (by simp)).put 1 v', (ho.base (fun _ _ => Nat.zero_le _)).keeps k7 (fun x hx => ?_)⟩, (hk.mono (by simp)).trans k7, fun x hx => (ho.lt x hx).1⟩
  have := (ho.lt x hx).1
  simp
  omega
set_option maxRecDepth 1000000 in
set_option maxHeartbeats 4000000 in
theorem RDue_q {w : World} {b : Nat} {v : Value} {L : List (Int × Int)} (h : RQ w b v L) (hm : L.length ≤ 1000) (now : Int) :
    Calls Try.prog 24 #[.pointer (some ⟨b, 0, none⟩), .int .i64 now] w (RDuePost b v L now w) := by
  have HQ := Lib.hid h
  have hbw := h.lt.1
  clear h
  go_enter Try.func24, Try.ntmps24
  go_wp2_with fail
  go_loopg [5] L.length (fun gk o wr => ∃ (k : Nat) (v' : Value), gk = L.length - k ∧ k ≤ dueN L now ∧ OwnI wr w.heap.size o (idsOf (L.take k)) ∧ RQ wr b v' (L.drop k) ∧ Keeps [b] w wr ∧ Hid (∀ x, v'.ownBlock = some x → v.ownBlock = some x ∨ w.heap.size ≤ x) ∧ Hid (∀ x, o.ownBlock = some x → v'.ownBlock ≠ some x))
  case atStart => exact ⟨0, v, (by simp), Nat.zero_le _, OwnI.nil _ _, HQ.out, Keeps.refl _ _, Lib.hid (fun x hx => .inl hx), Lib.hid (fun x hx => by simp [Value.ownBlock] at hx)⟩
  case round =>
    clear HQ
    obtain ⟨k, v', rfl, hk, ho, hq, hK, HV, HD⟩ := hrel
    have hdl := dueN_le L now
    have hV := Lib.hid (rvalid_q hq)
    have hlk : (idsOf (L.take k)).length ≤ 1000 := by unfold idsOf; rw [List.length_map, List.length_take]; omega
    rcases hM : L.drop k with _ | ⟨e0, M⟩
    · have hkl : k = dueN L now := by
        have := List.drop_eq_nil_iff.1 hM
        omega
      rw [hM] at hq
      have HF := Lib.hid (show RDuePost b v L now w (.returned _) _ from ⟨_, rfl, by rw [← hkl]; exact ho, by rw [← hkl, hM]; exact ⟨_, hq, hK, HV.out⟩⟩)
      have hc := hq.blk.cellAt 1 _ rfl
      obtain ⟨a0, cap, rfl⟩ := hq.own.shape
      obtain ⟨a1, c1, rfl⟩ := ho.shape
      clear hq ho hK hM hkl
      go_wp2_with fail
      refine hV.out.mono ?_
      rintro e w' ⟨rfl, rfl⟩
      go_wp2_with fail
      go_ret
      exact HF.out
    · obtain ⟨hkl, hg⟩ := getD_drop L hM
      rw [hM] at hq
      rcases hq.own with ⟨_, h0⟩ | ⟨g, cap, rfl, _, hr⟩
      · simp at h0
      · obtain ⟨c0, c1⟩ := hr.at_ (k := 0) (by simp)
        have d0 : wr.cell? ⟨g, 0, none⟩ = some (.int .i64 e0.1) := c0
        have d1 : wr.cell? ⟨g, 1, none⟩ = some (.int .i64 e0.2) := c1
        have hc := hq.blk.cellAt 1 _ rfl
        have hcap := hr.len
        rw [show (e0 :: M).length = M.length + 1 from rfl] at hc hcap
        clear c0 c1
        by_cases hn : e0.2 ≤ now
        · have hk1 := due_on (now := now) hkl hk (by rw [hg]; exact hn)
          have HI := Lib.hid (ids_next L hM)
          have HDr := Lib.hid (drop_next L hM)
          have hMl : M.length ≤ 1000 := by have := congrArg List.length hM; rw [List.length_drop, List.length_cons] at this; omega
          obtain ⟨a1, n1, rfl⟩ := ho.shape
          obtain ⟨q1, hq1⟩ : ∃ q, (idsOf (L.take k)).length = q := ⟨_, rfl⟩
          rw [hq1] at ho HD ⊢
          have hbo : ∀ x, (Value.slice a1 q1 n1).ownBlock = some x → w.heap.size ≤ x := ho.from_
          have kA := (Keeps.refl [] wr).alloc (.cells #[.int .i64 e0.1] 3)
          have HO := Lib.hid (ho.keeps kA (by simp))
          have HL := Lib.hid (SlI.lit (n := 1) (cap := 1) (Blk.new wr 3 ([e0.1].map (Value.int .i64)).toArray) rfl (by unfold maxLen; simp))
          have hBsz : w.heap.size ≤ (wr.alloc (.cells #[.int .i64 e0.1] 3)).heap.size := (hK.alloc _).size
          have HC := Lib.hid (fun W (kW : Keeps (Value.slice a1 q1 n1).ownBlock.toList wr W) => hq.keeps kW (fun hx => by have := hbo b (by simpa using hx); omega) (fun x hx hx2 => HD.out x (by simpa using hx2) hx))
          have HRw := Lib.hid (fun W (kW : Keeps (Value.slice a1 q1 n1).ownBlock.toList wr W) => hr.keeps kW (fun hx => HD.out g (by simpa using hx) rfl))
          have HK := Lib.hid hK
          have HKA := Lib.hid kA
          have hbl : (idsOf (L.take k)).length + 1 ≤ 2000 := by omega
          have hgl := hr.lt
          clear hq ho hK hM hr kA hq1
          obtain ⟨i0, hi0⟩ : ∃ i, e0.1 = i := ⟨_, rfl⟩
          rw [hi0] at *
          obtain ⟨t0, ht0⟩ : ∃ i, e0.2 = i := ⟨_, rfl⟩
          rw [ht0] at *
          clear hi0 ht0
          by_cases hc1 : cap = 1
          · obtain rfl : M = [] := List.eq_nil_of_length_eq_zero (by omega)
            have HS2 := Lib.hid (fun (W : World) (_ : RowR W g cap [e0]) => show SrcR W (.slice (some ⟨g, 0, none⟩) 0 0) [] from .none _ _ _)
            subst hc1
            go_wp2_with fail
            refine hV.out.mono ?_
            rintro e w' ⟨rfl, rfl⟩
            go_wp2_with (first
              | (at_builtin; refine wpList_append_sl rfl (.tmp 27) (.tmp 35) 26 rfl w.heap.size Try.underlying26 Try.info3 rfl rfl HO.out HL.out (by rw [List.length_singleton]; omega) hBsz ?_; intro v1 w1 o1 g1 b1; rw [← HI.out] at o1; obtain ⟨a2, n2, rfl⟩ := o1.shape; obtain ⟨q2, hq2⟩ : ∃ q, (idsOf (L.take (k + 1))).length = q := ⟨_, rfl⟩; rw [hq2] at o1 b1 ⊢; have k1 : Keeps (Value.slice a1 q1 n1).ownBlock.toList wr w1 := (HKA.out.mono (by simp)).trans (Keeps.of_grown g1); have hq1 := HC.out _ k1; have x1 := hq1.blk.cellAt 1 _ rfl; have xA := (hq1.keep0 ((Keeps.refl [] w1).alloc (.cells #[] 74))).blk.cellAt 1 _ rfl)
              | (at_builtin; refine wpList_append_r rfl (.tmp 38) (.tmp 43) rfl (w0 := w1) rfl rfl (OwnR.empty (Blk.new w1 74 #[]) (Nat.le_refl _)) (HS2.out _ ((HRw.out _ k1).keeps ((Keeps.refl [] w1).alloc _) (by simp))) (by rw [List.length_nil]; omega) ((Keeps.refl [] w1).alloc _) ?_; intro v2 w2 h2; obtain ⟨a3, n3, rfl⟩ := h2.own.shape; obtain ⟨q3, hq3⟩ : ∃ q, ([] ++ ([] : List (Int × Int))).length = q := ⟨_, rfl⟩; rw [hq3] at h2 ⊢; have x2 := (hq1.keep0 h2.keeps).blk.cellAt 1 _ rfl; have f2 := (hq1.keep0 h2.keeps).blk.frozen 1))
            have hb1 : b < w1.heap.size := by have := k1.size; have := HK.out.size; omega
            obtain ⟨r1, r2, r3⟩ := RQ.store hb1 hq1.blk h2.keeps h2.own
            have hK1 := HK.out.step k1 (fun x hx => .inr (hbo x (by simpa using hx)))
            have HZ1 := hK1.size
            have o2 := (o1.keeps h2.keeps (by simp)).keeps ((Keeps.refl [b] w2).setCell (p := ⟨b, 1, none⟩) (.inl (by simp)) (.slice a3 q3 n3)) (fun x hx => by have := o1.from_ x hx; simp; omega)
            have HV2 := Lib.hid (fun x (hx : (Value.slice a3 q3 n3).ownBlock = some x) => (show v.ownBlock = some x ∨ w.heap.size ≤ x from .inr (by have := r3 x hx; omega)))
            have HD2 := Lib.hid (fun x (hx : (Value.slice a2 q2 n2).ownBlock = some x) (hx2 : (Value.slice a3 q3 n3).ownBlock = some x) => (by have := r3 x hx2; have := (o1.lt x hx).2; omega : False))
            rw [List.nil_append, ← HDr.out] at r1
            have hK2 := hK1.trans r2
            clear x1 xA x2 f2 hq1
            go_roundg (L.length - (k + 1))
            case rel => exact ⟨k + 1, _, rfl, hk1, o2, r1, hK2, HV2, HD2⟩
            case measure => omega
          · have HS2 := Lib.hid (fun (W : World) (hR : RowR W g cap (e0 :: M)) => show SrcR W (.slice (some ⟨g, 1 * 2, none⟩) M.length (cap - 1)) M from hR.srcE (i := 1) (by simp) (cap - 1))
            have hcp : (1 : Int) ≤ (cap : Int) := by omega
            go_wp2_with fail
            refine hV.out.mono ?_
            rintro e w' ⟨rfl, rfl⟩
            go_wp2_with (first
              | (at_builtin; refine wpList_append_sl rfl (.tmp 27) (.tmp 35) 26 rfl w.heap.size Try.underlying26 Try.info3 rfl rfl HO.out HL.out (by rw [List.length_singleton]; omega) hBsz ?_; intro v1 w1 o1 g1 b1; rw [← HI.out] at o1; obtain ⟨a2, n2, rfl⟩ := o1.shape; obtain ⟨q2, hq2⟩ : ∃ q, (idsOf (L.take (k + 1))).length = q := ⟨_, rfl⟩; rw [hq2] at o1 b1 ⊢; have k1 : Keeps (Value.slice a1 q1 n1).ownBlock.toList wr w1 := (HKA.out.mono (by simp)).trans (Keeps.of_grown g1); have hq1 := HC.out _ k1; have x1 := hq1.blk.cellAt 1 _ rfl; have xA := (hq1.keep0 ((Keeps.refl [] w1).alloc (.cells #[] 74))).blk.cellAt 1 _ rfl)
              | (at_builtin; refine wpList_append_r rfl (.tmp 38) (.tmp 43) rfl (w0 := w1) rfl rfl (OwnR.empty (Blk.new w1 74 #[]) (Nat.le_refl _)) (HS2.out _ ((HRw.out _ k1).keeps ((Keeps.refl [] w1).alloc _) (by simp))) (by rw [List.length_nil]; omega) ((Keeps.refl [] w1).alloc _) ?_; intro v2 w2 h2; obtain ⟨a3, n3, rfl⟩ := h2.own.shape; obtain ⟨q3, hq3⟩ : ∃ q, ([] ++ M).length = q := ⟨_, rfl⟩; rw [hq3] at h2 ⊢; have x2 := (hq1.keep0 h2.keeps).blk.cellAt 1 _ rfl; have f2 := (hq1.keep0 h2.keeps).blk.frozen 1))
            have hb1 : b < w1.heap.size := by have := k1.size; have := HK.out.size; omega
            obtain ⟨r1, r2, r3⟩ := RQ.store hb1 hq1.blk h2.keeps h2.own
            have hK1 := HK.out.step k1 (fun x hx => .inr (hbo x (by simpa using hx)))
            have HZ1 := hK1.size
            have o2 := (o1.keeps h2.keeps (by simp)).keeps ((Keeps.refl [b] w2).setCell (p := ⟨b, 1, none⟩) (.inl (by simp)) (.slice a3 q3 n3)) (fun x hx => by have := o1.from_ x hx; simp; omega)
            have HV2 := Lib.hid (fun x (hx : (Value.slice a3 q3 n3).ownBlock = some x) => (show v.ownBlock = some x ∨ w.heap.size ≤ x from .inr (by have := r3 x hx; omega)))
            have HD2 := Lib.hid (fun x (hx : (Value.slice a2 q2 n2).ownBlock = some x) (hx2 : (Value.slice a3 q3 n3).ownBlock = some x) => (by have := r3 x hx2; have := (o1.lt x hx).2; omega : False))
            rw [List.nil_append, ← HDr.out] at r1
            have hK2 := hK1.trans r2
            clear x1 xA x2 f2 hq1
            go_roundg (L.length - (k + 1))
            case rel => exact ⟨k + 1, _, rfl, hk1, o2, r1, hK2, HV2, HD2⟩
            case measure => omega
        · have hkl2 := due_here (now := now) hkl hk (by rw [hg]; omega)
          have HF := Lib.hid (show RDuePost b v L now w (.returned _) _ from ⟨_, rfl, by rw [hkl2]; exact ho, by rw [hkl2, hM]; exact ⟨_, hq, hK, HV.out⟩⟩)
          obtain ⟨a1, n1, rfl⟩ := ho.shape
          obtain ⟨t0, ht0⟩ : ∃ i, e0.2 = i := ⟨_, rfl⟩
          rw [ht0] at d1 hn
          clear hq ho hK hM hr ht0
          go_wp2_with fail
          refine hV.out.mono ?_
          rintro e w' ⟨rfl, rfl⟩
          go_wp2_with fail
          go_ret
          exact HF.out
end Go.Proofs.Ytognnjaefaoefaa
