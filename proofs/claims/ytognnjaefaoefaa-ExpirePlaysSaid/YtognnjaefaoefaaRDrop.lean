/- The contract of the document's Drop. Condition: a queue that New or Copy made. -/
import Derived.Test.YtognnjaefaoefaaRQ
namespace Go.Proofs.Ytognnjaefaoefaa
open Go.RowKit

/-- A queue of the document was turned. -/
def RTurned (w w' : World) (b : Nat) (v : Value) (L : List (Int × Int)) : Prop := ∃ v', RQ w' b v' L ∧ Keeps [b] w w' ∧ ∀ x, v'.ownBlock = some x → v.ownBlock = some x ∨ w.heap.size ≤ x
/-- Behind the last store. -/
theorem RTurned.of {w w' : World} {b : Nat} {v v' : Value} {M : List (Int × Int)} (hb : b < w.heap.size) {x : Value} (hblk : Blk w b 72 #[.bool true, x]) (hk : Keeps [] w w') (ho : OwnR w' w.heap.size v' M) : RTurned w (w'.setCell ⟨b, 1, none⟩ v') b v M := by
  have k7 := (Keeps.refl [b] w').setCell (p := ⟨b, 1, none⟩) (.inl (by simp)) v'
  refine ⟨v', ⟨(hblk.keeps hk (by simp)).put 1 v', (ho.base (fun _ _ => Nat.zero_le _)).keeps k7 (fun x hx => ?_)⟩, (hk.mono (by simp)).trans k7, fun x hx => .inr (ho.lt x hx).1⟩
  have := (ho.lt x hx).1
  simp
  omega
set_option maxRecDepth 1000000 in
set_option maxHeartbeats 4000000 in
theorem RDrop_q {w : World} {b : Nat} {v : Value} {L : List (Int × Int)} (h : RQ w b v L) (hn : (L.map Prod.fst).Nodup) (hm : L.length ≤ 1000) (id : Int) :
    Calls Try.prog 22 #[.pointer (some ⟨b, 0, none⟩), .int .i64 id] w fun e w' => e = .returned (.bool (decide (placeOf L id < L.length))) ∧ RTurned w w' b v (dropE L id) := by
  have hF := Lib.hid (rfind_q h id (by omega))
  have HQ := Lib.hid h
  unfold findI at hF
  by_cases hp : placeOf L id < L.length
  · rw [if_pos hp] at hF
    rw [decide_eq_true hp]
    have HD := Lib.hid (dropE_here hn hp)
    obtain ⟨k, hk⟩ : ∃ k, placeOf L id = k := ⟨_, rfl⟩
    rw [hk] at hF hp HD
    obtain ⟨n, hnn⟩ : ∃ n, L.length = n := ⟨_, rfl⟩
    have HNN := Lib.hid hnn
    rcases h.own with ⟨_, h0⟩ | ⟨g, cap, rfl, _, hr⟩
    · rw [h0] at hp; simp at hp
    · have hcap := hr.len
      have hcm := hr.cap_
      unfold maxLen at hcm
      rw [hnn] at hcap hp hm
      have hE1 := Lib.hid (show OwnR (w.alloc (.cells #[] 74)).drew w.heap.size (.slice (some ⟨w.heap.size, 0, none⟩) 0 0) [] from OwnR.empty (Blk.new w 74 #[]).drew (Nat.le_refl _))
      have HKA := Lib.hid (show Keeps [] w (w.alloc (.cells #[] 74)).drew from ((Keeps.refl [] w).alloc _).drew)
      have HS1 := Lib.hid (fun W (kW : Keeps [] w W) => (hr.keeps kW (by simp)).src0 (j := k) (by omega) cap)
      have HC := Lib.hid (fun W (kW : Keeps [] w W) => (h.keep0 kW).blk)
      have c0 := h.blk.cellAt 1 _ rfl
      have cA := (HC.out _ ((Keeps.refl [] w).alloc (.cells #[] 74))).cellAt 1 _ rfl
      rw [hnn] at c0 cA
      simp only [hnn] at HC
      have hb := h.lt.1
      have HBL := Lib.hid h.blk
      have l1 : (L.take k).length ≤ 1000 := by rw [List.length_take]; omega
      have l2 : (L.drop (k + 1)).length ≤ 1000 := by rw [List.length_drop]; omega
      have hk0 : ¬ (k : Int) < 0 := by omega
      have htn : ((k : Int) + 1).toNat = k + 1 := by omega
      have hk1 : (0 : Int) ≤ (k : Int) + 1 := by omega
      have hk2 : (k : Int) + 1 ≤ (n : Int) := by omega
      have hk3 : (n : Int) ≤ (cap : Int) := by omega
      have hk4 : (k : Int) ≤ (cap : Int) := by omega
      have hw1 : IntKind.i64.wrap ((k : Int) + 1) = (k : Int) + 1 := by rw [IntKind.wrap_i64]; omega
      clear hn hk
      by_cases hck : cap = k + 1
      · have hnk : n = k + 1 := by omega
        subst hck
        subst hnk
        have hk5 : (k : Int) ≤ (k : Int) + 1 := by omega
        have HS2 := Lib.hid (fun (W : World) (_ : Keeps [] w W) => show SrcR W (.slice (some ⟨g, 0, none⟩) 0 0) (L.drop (k + 1)) by rw [List.drop_of_length_le (by omega)]; exact .none _ _ _)
        clear hnn hr h
        go_enter Try.func22, Try.ntmps22
        go_wp2_with fail
        refine hF.out.mono ?_
        rintro e w' ⟨rfl, rfl⟩
        go_wp2_with fail
        go_region_law (first
          | (refine step_append_r rfl (.tmp 12) (.tmp 18) rfl (w0 := w) (by simp [Act.eval, Act.put]) (by simp [Act.eval, Act.put]) hE1.out (HS1.out _ HKA.out) (by rw [List.length_nil]; omega) HKA.out ?_; intro v6 w6 h6; obtain ⟨a6, n6, rfl⟩ := h6.own.shape; obtain ⟨q6, hq6⟩ : ∃ q, ([] ++ L.take k).length = q := ⟨_, rfl⟩; rw [hq6] at h6 ⊢; clear hq6; have c6 := (HC.out _ h6.keeps).cellAt 1 _ rfl)
          | (refine step_append_r rfl (.tmp 19) (.tmp 26) rfl (w0 := w) (by simp [Act.eval, Act.put]) (by simp [Act.eval, Act.put]) h6.own (HS2.out _ h6.keeps) (by rw [List.nil_append]; omega) h6.keeps ?_; intro v7 w7 h7; obtain ⟨a7, n7, rfl⟩ := h7.own.shape; obtain ⟨q7, hq7⟩ : ∃ q, (([] ++ L.take k) ++ L.drop (k + 1)).length = q := ⟨_, rfl⟩; rw [hq7] at h7 ⊢; clear hq7; have c7 := (HC.out _ h7.keeps).cellAt 1 _ rfl; have f7 := (HC.out _ h7.keeps).frozen 1))
        all_goals
          go_wp2_with fail
          go_ret
          refine ⟨rfl, ?_⟩
          rw [HD.out]
          exact RTurned.of hb HBL.out h7.keeps h7.own
      · have HS2 := Lib.hid (fun (W : World) (kW : Keeps [] w W) => show SrcR W (.slice (some ⟨g, (k + 1) * 2, none⟩) (n - (k + 1)) (cap - (k + 1))) (L.drop (k + 1)) by
          have := (hr.keeps kW (by simp)).srcE (i := k + 1) (by omega) (cap - (k + 1))
          rwa [hnn] at this)
        have hk5 : (k : Int) + 1 ≤ (cap : Int) := by omega
        clear hnn hr h
        go_enter Try.func22, Try.ntmps22
        go_wp2_with fail
        refine hF.out.mono ?_
        rintro e w' ⟨rfl, rfl⟩
        go_wp2_with fail
        go_region_law (first
          | (refine step_append_r rfl (.tmp 12) (.tmp 18) rfl (w0 := w) (by simp [Act.eval, Act.put]) (by simp [Act.eval, Act.put]) hE1.out (HS1.out _ HKA.out) (by rw [List.length_nil]; omega) HKA.out ?_; intro v6 w6 h6; obtain ⟨a6, n6, rfl⟩ := h6.own.shape; obtain ⟨q6, hq6⟩ : ∃ q, ([] ++ L.take k).length = q := ⟨_, rfl⟩; rw [hq6] at h6 ⊢; clear hq6; have c6 := (HC.out _ h6.keeps).cellAt 1 _ rfl)
          | (refine step_append_r rfl (.tmp 19) (.tmp 26) rfl (w0 := w) (by simp [Act.eval, Act.put]) (by simp [Act.eval, Act.put]) h6.own (HS2.out _ h6.keeps) (by rw [List.nil_append]; omega) h6.keeps ?_; intro v7 w7 h7; obtain ⟨a7, n7, rfl⟩ := h7.own.shape; obtain ⟨q7, hq7⟩ : ∃ q, (([] ++ L.take k) ++ L.drop (k + 1)).length = q := ⟨_, rfl⟩; rw [hq7] at h7 ⊢; clear hq7; have c7 := (HC.out _ h7.keeps).cellAt 1 _ rfl; have f7 := (HC.out _ h7.keeps).frozen 1))
        all_goals
          go_wp2_with fail
          go_ret
          refine ⟨rfl, ?_⟩
          rw [HD.out]
          exact RTurned.of hb HBL.out h7.keeps h7.own
  · rw [if_neg hp] at hF
    rw [decide_eq_false hp, dropE_none hp]
    clear h
    go_enter Try.func22, Try.ntmps22
    go_wp2_with fail
    refine hF.out.mono ?_
    rintro e w' ⟨rfl, rfl⟩
    go_wp2_with fail
    go_ret
    exact ⟨rfl, _, HQ.out, Keeps.refl _ _, fun x hx => .inl hx⟩
end Go.Proofs.Ytognnjaefaoefaa
