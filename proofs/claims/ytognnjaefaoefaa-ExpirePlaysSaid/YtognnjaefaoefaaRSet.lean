/- The contract of the document's Set. Condition: a queue that New or Copy made, its list in order. Printed by gen-rset.py. -/
import Derived.Test.YtognnjaefaoefaaRDue
import Derived.Test.YtognnjaefaoefaaHeld
import Derived.Deep.CutBlock
namespace Go.Proofs.Ytognnjaefaoefaa
open Go.RowKit

theorem step_append_k {ops : Array Oper} {o : Oper} {a : Act} {w : World} {K : Act → World → Prop} {Q : Exit → Act → World → Prop} {E : Prop} (hgd : o.guard = none) (s x : Operand)
    (ho : o.op = .call { callee := .builtin .append, args := #[s, x], argTypes := #[70, 70] }) {w0 : World} {v u : Value} {L M : List (Int × Int)} (hs : a.eval s = v) (hx : a.eval x = u)
    (hv : OwnR w w0.heap.size v L) (hu : SrcR w u M) (hm : L.length + M.length ≤ 100000) (hk : Keeps [] w0 w)
    (h : ∀ v' w', AppR w0 w w' v' (L ++ M) → Keeps v.ownBlock.toList w w' → K (a.put o.dst v') w') :
    if Region.wanted o (yielded ops a.tmps) = true then Oper.wp Try.prog o a w K Q else E := by
  have hw : Region.wanted o (yielded ops a.tmps) = true := by simp [Region.wanted, hgd]
  rw [if_pos hw]
  obtain ⟨v', w', hr, h2, h3, h5⟩ := run_append_r o.type hv hu hm hk.size
  unfold Oper.wp execOp
  simp only [ho, resolve, invoke, builtin, Sem.run_bind, Sem.run_pure, Result.andThen_ok, List.map_toArray, List.map_cons, List.map_nil, hs, hx, hr]
  exact h v' w' ⟨h2, hk.grown h3 (fun k e => .inr (hv.lt k e).1)⟩ (Keeps.of_grown h3)
/-- A list of one entry that was written out. -/
theorem srcR_lit {w : World} {g : Nat} {i a : Int} (h : Blk w g 74 #[.int .i64 i, .int .i64 a]) : SrcR w (.slice (some ⟨g, 0, none⟩) 1 1) [(i, a)] :=
  .inr ⟨⟨g, 0, none⟩, 1, rfl, fun j x hj => by
    rw [Addr.add_lit, h.cell, Nat.zero_add]
    simpa [flat] using hj⟩
theorem bef_pos {M : List (Int × Int)} (hg : Good M) (x : Int × Int) {k : Nat} (hk : k < M.length) (hp : k ≤ posE M x) : (Bef (M.getD k (0, 0)) x → k + 1 ≤ posE M x) ∧ (¬ Bef (M.getD k (0, 0)) x → k = posE M x) := by
  constructor
  · intro hb
    rcases Nat.lt_or_ge k (posE M x) with h | h
    · omega
    · exact absurd ((cmpE_bef _ _).2 hb) (posE_ge hg.sorted x h hk)
  · intro hb
    rcases Nat.lt_or_ge k (posE M x) with h | h
    · exact absurd ((cmpE_bef _ _).1 (posE_lt hg.sorted x h)) hb
    · omega
set_option linter.unusedSimpArgs false in
set_option maxRecDepth 1000000 in
set_option maxHeartbeats 8000000 in
theorem RSet_ok {w : World} {b : Nat} {v : Value} {L : List (Int × Int)} (h : RQ w b v L) (hg : Good L) (hl : L.length ≤ 256) (id a : Int) (ha1 : ¬ a < 0) (ha2 : ¬ 1099511627776 < a) (hf : ¬ (¬ placeOf L id < L.length ∧ 256 ≤ L.length)) :
    Calls Try.prog 21 #[.pointer (some ⟨b, 0, none⟩), .int .i64 id, .int .i64 a] w fun e w' => e = .returned (.int .i64 0) ∧ RTurned w w' b v (insE (id, a) (dropE L id)) := by
  have hV := Lib.hid (rvalid_q h)
  have hD := Lib.hid (RDrop_q h hg.ids (by omega) id)
  have hbw := h.lt.1
  have hML : (dropE L id).length ≤ 255 := by
    by_cases hp : placeOf L id < L.length
    · have := dropE_len hg hp; omega
    · rw [dropE_none hp]; omega
  have HGM := Lib.hid (hg.dropE id)
  obtain ⟨t, ht⟩ : ∃ t, decide (placeOf L id < L.length) = t := ⟨_, rfl⟩
  have HT := Lib.hid (show t = false → (dropE L id).length < 256 from fun h => by omega)
  rw [ht] at hD
  obtain ⟨M, hM⟩ : ∃ M, dropE L id = M := ⟨_, rfl⟩
  rw [hM] at hD HGM hML HT ⊢
  clear h hg hl hf ht hM
  go_enter Try.func21, Try.ntmps21
  go_upto_region 5 with (go_at_call 41; refine hV.out.mono ?_; rintro e w' ⟨rfl, rfl⟩)
  go_cut [29] from 9 (fun s wx => s = .bool false ∧ RTurned w wx b v M)
  case first =>
    cases t with
    | true =>
      go_wp2_with fail
      refine hD.out.mono ?_
      rintro e w1 ⟨rfl, ht⟩
      go_wp2_with fail
      go_meet
      exact ⟨rfl, ht⟩
    | false =>
      go_wp2_with fail
      refine hD.out.mono ?_
      rintro e w1 ⟨rfl, v1, hq1, hk1, hv1⟩
      have c0 := hq1.blk.cellAt 1 _ rfl
      obtain ⟨a1, cap, rfl⟩ := hq1.own.shape
      have hlt : ¬ 256 ≤ (M.length : Int) := by omega
      have HT1 := Lib.hid (show RTurned w w1 b v M from ⟨_, hq1, hk1, hv1⟩)
      clear hq1 hk1 hv1
      go_wp2_with fail
      go_meet
      exact ⟨by rw [decide_eq_false (by omega)], HT1.out⟩
  case rest =>
  obtain ⟨rfl, v1, hq1, hk1, hv1⟩ := hcut
  have HV1 := Lib.hid hv1
  clear hv1 hD HT hV
  have bX := Blk.new wc 74 #[.int .i64 id, .int .i64 a]
  have kX := (Keeps.refl [] wc).alloc (.cells #[.int .i64 id, .int .i64 a] 74)
  have hqX := hq1.keep0 kX
  have HK1 := Lib.hid (hk1.trans (kX.mono (by simp)))
  have hXb : wc.heap.size ≠ b := by have := hq1.lt.1; omega
  have HXv := Lib.hid (fun x (hx : v1.ownBlock = some x) => (show x ≠ wc.heap.size by have := hq1.lt.2 x hx; omega))
  have hwX : w.heap.size ≤ wc.heap.size := hk1.size
  clear hq1 hk1 kX
  go_upto_block 0 with fail
  generalize wc.heap.size = X at *
  generalize wc.alloc (.cells #[.int .i64 id, .int .i64 a] 74) = V at *
  have HQX := Lib.hid hqX
  have HBX := Lib.hid bX
  have HPL := Lib.hid (posE_le M (id, a))
  have HBP := Lib.hid (fun k hk hp => bef_pos HGM.out (id, a) (k := k) hk hp)
  clear hqX bX
  go_cut [8] from 9 (fun s wx => s = .int .i64 (posE M (id, a) : Nat) ∧ Keeps [] V wx)
  case first =>
    go_wp2_with fail
    go_loopw [8] (fun i wr => ∃ k : Nat, i = .int .i64 k ∧ k ≤ M.length ∧ k ≤ posE M (id, a) ∧ Keeps [] V wr) (fun i _ => M.length - (intOf i).toNat)
    case atStart => exact ⟨0, rfl, Nat.zero_le _, Nat.zero_le _, Keeps.refl _ _⟩
    case round =>
      obtain ⟨k, rfl, hk, hp, K⟩ := hrel
      have hq := HQX.out.keep0 K
      have hbx := HBX.out.keeps K (by simp)
      have cb := hq.blk.cellAt 1 _ rfl
      have x0 := hbx.cellAt 0 _ rfl
      have x1 := hbx.cellAt 1 _ rfl
      by_cases hkM : k < M.length
      · have hkI : (k : Int) < (M.length : Int) := by omega
        have hdk : decide ((k : Int) < (M.length : Int)) = true := decide_eq_true hkI
        obtain ⟨a1, cap, rfl⟩ := hq.own.shape
        obtain ⟨g, rfl, hr⟩ := hq.own.some_ hkM
        obtain ⟨e0, e1⟩ := hr.at_ hkM
        have hcap := hr.len
        have hB := HBP.out k hkM hp
        obtain ⟨i0, hi0⟩ : ∃ i, (M.getD k (0, 0)).1 = i := ⟨_, rfl⟩
        obtain ⟨t0, ht0⟩ : ∃ i, (M.getD k (0, 0)).2 = i := ⟨_, rfl⟩
        rw [show M.getD k (0, 0) = (i0, t0) from Prod.ext hi0 ht0] at hB
        rw [hi0] at e0
        rw [ht0] at e1
        have HBef := Lib.hid (fun W => before_q i0 t0 id a W)
        have HCell := Lib.hid (fun W (kW : Keeps [] wr W) => show W.cell? ⟨b, 1, none⟩ = some (.slice (some ⟨g, 0, none⟩) M.length cap) ∧ W.cell? ⟨g, k * 2, none⟩ = some (.int .i64 i0) ∧ W.cell? ⟨g, k * 2 + 1, none⟩ = some (.int .i64 t0) ∧ W.cell? ⟨X, 0, none⟩ = some (.int .i64 id) ∧ W.cell? ⟨X, 1, none⟩ = some (.int .i64 a) from
          ⟨(hq.keep0 kW).blk.cellAt 1 _ rfl, (kW.cell (p := ⟨g, k * 2, none⟩) hr.lt (by simp)).trans e0, (kW.cell (p := ⟨g, k * 2 + 1, none⟩) hr.lt (by simp)).trans e1, (hbx.keeps kW (by simp)).cellAt 0 _ rfl, (hbx.keeps kW (by simp)).cellAt 1 _ rfl⟩)
        have HB := Lib.hid hB
        have HKK := Lib.hid K
        obtain ⟨u, hu⟩ : ∃ u, decide (Bef (i0, t0) (id, a)) = u := ⟨_, rfl⟩
        have HU := Lib.hid hu
        simp only [hu] at HBef
        clear hq hbx hr hB hi0 ht0 hu K
        go_wp2_with fail
        go_region_held3 (fun w' => w'.cell? ⟨b, 1, none⟩ = some (.slice (some ⟨g, 0, none⟩) M.length cap) ∧ w'.cell? ⟨g, k * 2, none⟩ = some (.int .i64 i0) ∧ w'.cell? ⟨g, k * 2 + 1, none⟩ = some (.int .i64 t0) ∧ w'.cell? ⟨X, 0, none⟩ = some (.int .i64 id) ∧ w'.cell? ⟨X, 1, none⟩ = some (.int .i64 a))
          (first | exact HCell.out _ ((Keeps.refl [] _).drew) | exact HCell.out _ ((Keeps.refl [] _).drew.trans k5) | assumption | go_keep)
          ((go_at_call 42; refine (HBef.out _).mono ?_; rintro e w5 ⟨rfl, k5⟩))
        have K5 := HKK.out.trans ((Keeps.refl [] _).drew.trans k5)
        clear k5 cb x0 x1 e0 e1
        cases u with
        | true =>
          have hn := HB.out.1 (of_decide_eq_true HU.out)
          go_wp2_with fail
          go_roundw
          case rel => exact ⟨k + 1, by go_num, by omega, hn, K5⟩
          case measure => simp [intOf]; omega
        | false =>
          have hn := HB.out.2 (of_decide_eq_false HU.out)
          have HKU := Lib.hid K5
          clear K5
          go_wp2_with fail
          go_meet
          rw [← hn]
          exact ⟨rfl, HKU.out⟩
      · have hkI : ¬ (k : Int) < (M.length : Int) := by omega
        have hdk : decide ((k : Int) < (M.length : Int)) = false := decide_eq_false hkI
        have hkp : k = posE M (id, a) := by have := HPL.out; omega
        have HKP := Lib.hid hkp
        have HKU := Lib.hid K
        obtain ⟨a1, cap, rfl⟩ := hq.own.shape
        clear hq hbx K hkp
        go_wp2_with fail
        go_quiet (fail)
        go_wp2_with fail
        go_meet
        rw [← HKP.out]
        exact ⟨rfl, HKU.out.drewN _⟩
  case rest =>
  obtain ⟨rfl, K⟩ := hcut
  have HIE := Lib.hid (insE_eq HGM.out.sorted (id, a))
  have hpl := HPL.out
  obtain ⟨p, hp⟩ : ∃ p, posE M (id, a) = p := ⟨_, rfl⟩
  rw [hp] at hpl HIE ⊢
  clear hp HPL HBP
  have hqU := HQX.out.keep0 K
  have HXv2 := HXv
  have HFin := Lib.hid (fun (w9 : World) (v9 : Value) (k9 : Keeps [] wc w9) (o9 : OwnR w9 wc.heap.size v9 (insE (id, a) M)) => (show RTurned w (w9.setCell ⟨b, 1, none⟩ v9) b v (insE (id, a) M) from by
    obtain ⟨r1, r2, r3⟩ := RQ.store hqU.lt.1 hqU.blk k9 o9
    have KK := HK1.out.trans ((K.mono (by simp)).trans r2)
    exact ⟨v9, r1, KK, fun x hx => .inr (by have := r3 x hx; have := K.size; have := HK1.out.size; omega)⟩))
  have HBU := Lib.hid (HBX.out.keeps K (by simp))
  have HC := Lib.hid (fun W (kW : Keeps [] wc W) => (hqU.keep0 kW).blk)
  have x0 := HBU.out.cellAt 0 _ rfl
  have x1 := HBU.out.cellAt 1 _ rfl
  have HO := Lib.hid hqU.own
  have r0 := Keeps.refl [] wc
  have KA0 := Lib.hid r0.drew
  have KA1 := Lib.hid (r0.alloc (.cells #[] 74)).drew
  have KA2 := Lib.hid (r0.alloc (.cells #[.int .i64 id, .int .i64 a] 74)).drew
  have KA3 := Lib.hid ((r0.alloc (.cells #[] 74)).alloc (.cells #[.int .i64 id, .int .i64 a] 74)).drew
  have KA4 := Lib.hid ((r0.alloc (.cells #[.int .i64 id, .int .i64 a] 74)).alloc (.cells #[] 74)).drew
  have D1 := Lib.hid (show OwnR (wc.alloc (.cells #[] 74)).drew wc.heap.size (.slice (some ⟨wc.heap.size, 0, none⟩) 0 0) [] from OwnR.empty (Blk.new wc 74 #[]).drew (Nat.le_refl _))
  have D3 := Lib.hid (show OwnR ((wc.alloc (.cells #[] 74)).alloc (.cells #[.int .i64 id, .int .i64 a] 74)).drew wc.heap.size (.slice (some ⟨wc.heap.size, 0, none⟩) 0 0) [] from OwnR.empty ((Blk.new wc 74 #[]).alloc _).drew (Nat.le_refl _))
  have D4 := Lib.hid (show OwnR ((wc.alloc (.cells #[.int .i64 id, .int .i64 a] 74)).alloc (.cells #[] 74)).drew wc.heap.size (.slice (some ⟨wc.heap.size + 1, 0, none⟩) 0 0) [] from OwnR.empty (by have := (Blk.new (wc.alloc (.cells #[.int .i64 id, .int .i64 a] 74)) 74 #[]).drew; simpa using this) (by omega))
  have Y3 := Lib.hid (show Blk ((wc.alloc (.cells #[] 74)).alloc (.cells #[.int .i64 id, .int .i64 a] 74)).drew (wc.heap.size + 1) 74 #[.int .i64 id, .int .i64 a] by have := (Blk.new (wc.alloc (.cells #[] 74)) 74 #[.int .i64 id, .int .i64 a]).drew; simpa using this)
  have Y4 := Lib.hid (show Blk ((wc.alloc (.cells #[.int .i64 id, .int .i64 a] 74)).alloc (.cells #[] 74)).drew wc.heap.size 74 #[.int .i64 id, .int .i64 a] from ((Blk.new wc 74 #[.int .i64 id, .int .i64 a]).alloc _).drew)
  have l1 : (M.take p).length ≤ 1000 := by rw [List.length_take]; omega
  have l2 : (M.drop p).length ≤ 1000 := by rw [List.length_drop]; omega
  clear K HQX hqU r0
  go_upto_region 11 with fail
  go_cut [] from 9 (fun wx => RTurned w wx b v (insE (id, a) M))
  case first =>
    have HXi := Lib.hid hXb
    obtain ⟨n, hn⟩ : ∃ n, M.length = n := ⟨_, rfl⟩
    have HN := Lib.hid hn
    rcases HO.out with ⟨rfl, rfl⟩ | ⟨g, cap, rfl, _, hr⟩
    · have hp0 : p = 0 := by simpa using hpl
      subst hp0
      have HIE := Lib.hid (show insE (id, a) ([] : List (Int × Int)) = [] ++ (id, a) :: [] from rfl)
      have HS1 := Lib.hid (fun (W : World) (_ : Keeps [] wc W) => show SrcR W (.slice none 0 0) [] from SrcR.none _ none 0)
      have HS := Lib.hid (fun W (kW : Keeps [] wc W) => show W.cell? ⟨b, 1, none⟩ = some (.slice none 0 0) ∧ W.cell? ⟨X, 0, none⟩ = some (.int .i64 id) ∧ W.cell? ⟨X, 1, none⟩ = some (.int .i64 a) from ⟨(HC.out _ kW).cellAt 1 _ rfl, (HBU.out.keeps kW (by simp)).cellAt 0 _ rfl, (HBU.out.keeps kW (by simp)).cellAt 1 _ rfl⟩)
      have hS := HS.out _ KA0.out
      refine heldL.begin (m := 21) (S := fun w' => w'.cell? ⟨b, 1, none⟩ = some (.slice none 0 0) ∧ w'.cell? ⟨X, 0, none⟩ = some (.int .i64 id) ∧ w'.cell? ⟨X, 1, none⟩ = some (.int .i64 a)) (by kernel_rfl) ?_
      refine heldL.take0 (i := 0) (v := ?_) rfl (by kernel_rfl) (by kernel_rfl) (by kernel_rfl) (fun _ _ _ h => h) (by decide) (Or.inl ⟨by rfl, ?_⟩) (fun _ => hS) ?_
      rotate_left 1
      · (intro w _; go_simp; try with_reducible rfl)
      try simp only [Act.put, List.setIfInBounds_toArray, List.set_cons_zero, List.set_cons_succ]
      refine heldL.take0 (i := 2) (v := ?_) rfl (by kernel_rfl) (by kernel_rfl) (by kernel_rfl) (fun _ _ _ h => h) (by decide) (Or.inl ⟨by rfl, ?_⟩) (fun _ => hS) ?_
      rotate_left 1
      · (intro w _; go_simp; try with_reducible rfl)
      try simp only [Act.put, List.setIfInBounds_toArray, List.set_cons_zero, List.set_cons_succ]
      refine heldL.take0 (i := 3) (v := ?_) rfl (by kernel_rfl) (by kernel_rfl) (by kernel_rfl) (fun _ _ _ h => h) (by decide) (Or.inl ⟨by rfl, ?_⟩) (fun _ => hS) ?_
      rotate_left 1
      · (intro w _; go_simp; try with_reducible rfl)
      try simp only [Act.put, List.setIfInBounds_toArray, List.set_cons_zero, List.set_cons_succ]
      refine heldL.take0 (i := 4) (v := ?_) rfl (by kernel_rfl) (by kernel_rfl) (by kernel_rfl) (fun _ _ _ h => h) (by decide) (Or.inl ⟨by rfl, ?_⟩) (fun _ => hS) ?_
      rotate_left 1
      · (intro w _; go_simp; try with_reducible rfl)
      try simp only [Act.put, List.setIfInBounds_toArray, List.set_cons_zero, List.set_cons_succ]
      refine heldL.takeS (i := 5) (v := ?_) rfl (by kernel_rfl) (by kernel_rfl) (by kernel_rfl) (fun _ _ _ h => h) (by decide) rfl (by kernel_rfl) (by unfold Open_; kernel_rfl) (Or.inl ⟨by rfl, ?_⟩) hS ?_
      rotate_left 1
      · (intro w hw; (try dsimp only at hw); go_simp; try with_reducible rfl)
      try simp only [Act.put, List.setIfInBounds_toArray, List.set_cons_zero, List.set_cons_succ]
      refine heldL.take0 (i := 6) (v := ?_) rfl (by kernel_rfl) (by kernel_rfl) (by kernel_rfl) (fun _ _ _ h => h) (by decide) (Or.inl ⟨by rfl, ?_⟩) (fun _ => hS) ?_
      rotate_left 1
      · (intro w _; go_simp; try with_reducible rfl)
      try simp only [Act.put, List.setIfInBounds_toArray, List.set_cons_zero, List.set_cons_succ]
      refine heldL.take0 (i := 7) (v := ?_) rfl (by kernel_rfl) (by kernel_rfl) (by kernel_rfl) (fun _ _ _ h => h) (by decide) (Or.inl ⟨by rfl, ?_⟩) (fun _ => hS) ?_
      rotate_left 1
      · (intro w _; go_simp; try with_reducible rfl)
      try simp only [Act.put, List.setIfInBounds_toArray, List.set_cons_zero, List.set_cons_succ]
      refine heldL.takeS (i := 9) (v := ?_) rfl (by kernel_rfl) (by kernel_rfl) (by kernel_rfl) (fun _ _ _ h => h) (by decide) rfl (by kernel_rfl) (by unfold Open_; kernel_rfl) (Or.inl ⟨by rfl, ?_⟩) hS ?_
      rotate_left 1
      · (intro w hw; (try dsimp only at hw); go_simp; try with_reducible rfl)
      try simp only [Act.put, List.setIfInBounds_toArray, List.set_cons_zero, List.set_cons_succ]
      refine heldL.take0 (i := 12) (v := ?_) rfl (by kernel_rfl) (by kernel_rfl) (by kernel_rfl) (fun _ _ _ h => h) (by decide) (Or.inl ⟨by rfl, ?_⟩) (fun _ => hS) ?_
      rotate_left 1
      · (intro w _; go_simp; try with_reducible rfl)
      try simp only [Act.put, List.setIfInBounds_toArray, List.set_cons_zero, List.set_cons_succ]
      refine heldL.take0 (i := 13) (v := ?_) rfl (by kernel_rfl) (by kernel_rfl) (by kernel_rfl) (fun _ _ _ h => h) (by decide) (Or.inl ⟨by rfl, ?_⟩) (fun _ => hS) ?_
      rotate_left 1
      · (intro w _; go_simp; try with_reducible rfl)
      try simp only [Act.put, List.setIfInBounds_toArray, List.set_cons_zero, List.set_cons_succ]
      refine heldL.take0 (i := 14) (v := ?_) rfl (by kernel_rfl) (by kernel_rfl) (by kernel_rfl) (fun _ _ _ h => h) (by decide) (Or.inl ⟨by rfl, ?_⟩) (fun _ => hS) ?_
      rotate_left 1
      · (intro w _; go_simp; try with_reducible rfl)
      try simp only [Act.put, List.setIfInBounds_toArray, List.set_cons_zero, List.set_cons_succ]
      refine heldL.takeS (i := 15) (v := ?_) rfl (by kernel_rfl) (by kernel_rfl) (by kernel_rfl) (fun _ _ _ h => h) (by decide) rfl (by kernel_rfl) (by unfold Open_; kernel_rfl) (Or.inl ⟨by rfl, ?_⟩) hS ?_
      rotate_left 1
      · (intro w hw; (try dsimp only at hw); go_simp; try with_reducible rfl)
      try simp only [Act.put, List.setIfInBounds_toArray, List.set_cons_zero, List.set_cons_succ]
      refine heldL.take0 (i := 16) (v := ?_) rfl (by kernel_rfl) (by kernel_rfl) (by kernel_rfl) (fun _ _ _ h => h) (by decide) (Or.inl ⟨by rfl, ?_⟩) (fun _ => hS) ?_
      rotate_left 1
      · (intro w _; go_simp; try with_reducible rfl)
      try simp only [Act.put, List.setIfInBounds_toArray, List.set_cons_zero, List.set_cons_succ]
      refine heldL.take0 (i := 17) (v := ?_) rfl (by kernel_rfl) (by kernel_rfl) (by kernel_rfl) (fun _ _ _ h => h) (by decide) (Or.inl ⟨by rfl, ?_⟩) (fun _ => hS) ?_
      rotate_left 1
      · (intro w _; go_simp; try with_reducible rfl)
      try simp only [Act.put, List.setIfInBounds_toArray, List.set_cons_zero, List.set_cons_succ]
      refine heldL.all (rs := [1, 10]) (by kernel_rfl) (by simp) (List.forall_mem_cons.2 ⟨?_, List.forall_mem_cons.2 ⟨?_, List.forall_mem_nil _⟩⟩)
      · refine heldL.step rfl (fun K hK => ?_)
        go_simp
        refine hK.out _ _ (fun _ => HS.out _ KA1.out) ?_
        have hS := HS.out _ KA1.out
        clear hK K
        try simp only [Act.put, List.setIfInBounds_toArray, List.set_cons_zero, List.set_cons_succ]
        refine heldL.all (rs := [8, 10]) (by kernel_rfl) (by simp) (List.forall_mem_cons.2 ⟨?_, List.forall_mem_cons.2 ⟨?_, List.forall_mem_nil _⟩⟩)
        · refine heldL.step rfl (fun K hK => ?_)
          refine step_append_k rfl (.tmp 54) (.tmp 60) rfl (w0 := wc) (by simp [Act.eval]) (by simp [Act.eval]) D1.out (HS1.out _ KA1.out) (by rw [List.length_nil]; omega) KA1.out ?_
          intro v6 w6 h6 kk6
          obtain ⟨a6, n6, rfl⟩ := h6.own.shape
          obtain ⟨q6, hq6⟩ : ∃ q, ([] ++ ([] : List (Int × Int))).length = q := ⟨_, rfl⟩
          rw [hq6] at h6 ⊢
          clear hq6
          refine hK.out _ _ (fun _ => HS.out _ h6.keeps) ?_
          have hS := HS.out _ h6.keeps
          clear hK K
          try simp only [Act.put, List.setIfInBounds_toArray, List.set_cons_zero, List.set_cons_succ]
          refine heldL.all (rs := [10]) (by kernel_rfl) (by simp) (List.forall_mem_cons.2 ⟨?_, List.forall_mem_nil _⟩)
          refine heldL.step rfl (fun K hK => ?_)
          go_simp
          refine hK.out _ _ (fun _ => HS.out _ (h6.keeps.alloc (.cells #[.int .i64 id, .int .i64 a] 74))) ?_
          have hS := HS.out _ (h6.keeps.alloc (.cells #[.int .i64 id, .int .i64 a] 74))
          clear hK K
          try simp only [Act.put, List.setIfInBounds_toArray, List.set_cons_zero, List.set_cons_succ]
          refine heldL.all (rs := [11]) (by kernel_rfl) (by simp) (List.forall_mem_cons.2 ⟨?_, List.forall_mem_nil _⟩)
          refine heldL.step rfl (fun K hK => ?_)
          refine step_append_k rfl (.tmp 61) (.tmp 63) rfl (w0 := wc) (by simp [Act.eval]) (by simp [Act.eval]) (h6.own.keeps ((Keeps.refl [] w6).alloc (.cells #[.int .i64 id, .int .i64 a] 74)) (by simp)) (srcR_lit (Blk.new w6 74 #[.int .i64 id, .int .i64 a])) (by rw [List.nil_append, List.length_singleton]; omega) (h6.keeps.alloc _) ?_
          intro v8 w8 h8 kk8
          obtain ⟨a8, n8, rfl⟩ := h8.own.shape
          obtain ⟨q8, hq8⟩ : ∃ q, (([] ++ ([] : List (Int × Int))) ++ [(id, a)]).length = q := ⟨_, rfl⟩
          rw [hq8] at h8 ⊢
          clear hq8
          refine hK.out _ _ (fun _ => HS.out _ h8.keeps) ?_
          have hS := HS.out _ h8.keeps
          clear hK K
          try simp only [Act.put, List.setIfInBounds_toArray, List.set_cons_zero, List.set_cons_succ]
          refine heldL.all (rs := [18]) (by kernel_rfl) (by simp) (List.forall_mem_cons.2 ⟨?_, List.forall_mem_nil _⟩)
          refine heldL.step rfl (fun K hK => ?_)
          refine step_append_k rfl (.tmp 64) (.tmp 70) rfl (w0 := wc) (by simp [Act.eval]) (by simp [Act.eval]) h8.own (HS1.out _ h8.keeps) (by rw [List.nil_append, List.length_append, List.length_singleton]; omega) h8.keeps ?_
          intro v9 w9 h9 kk9
          obtain ⟨a9, n9, rfl⟩ := h9.own.shape
          obtain ⟨q9, hq9⟩ : ∃ q, ((([] ++ ([] : List (Int × Int))) ++ [(id, a)]) ++ ([] : List (Int × Int))).length = q := ⟨_, rfl⟩
          rw [hq9] at h9 ⊢
          clear hq9
          have c9 := (HC.out _ h9.keeps).cellAt 1 _ rfl
          have f9 := (HC.out _ h9.keeps).frozen 1
          refine hK.out _ _ (fun _ => HS.out _ h9.keeps) ?_
          have hS := HS.out _ h9.keeps
          clear hK K
          try simp only [Act.put, List.setIfInBounds_toArray, List.set_cons_zero, List.set_cons_succ]
          refine heldL.take0 (i := 19) (v := ?_) rfl (by kernel_rfl) (by kernel_rfl) (by kernel_rfl) (fun _ _ _ h => h) (by decide) (Or.inl ⟨by rfl, ?_⟩) (fun _ => hS) ?_
          rotate_left 1
          · (intro w _; go_simp; try with_reducible rfl)
          try simp only [Act.put, List.setIfInBounds_toArray, List.set_cons_zero, List.set_cons_succ]
          refine heldL.take0 (i := 20) (v := ?_) rfl (by kernel_rfl) (by kernel_rfl) (by kernel_rfl) (fun _ _ _ h => h) (by decide) (Or.inl ⟨by rfl, ?_⟩) (fun _ => hS) ?_
          rotate_left 1
          · (intro w _; go_simp; try with_reducible rfl)
          try simp only [Act.put, List.setIfInBounds_toArray, List.set_cons_zero, List.set_cons_succ]
          refine heldL.all (rs := [21]) (by kernel_rfl) (by simp) (List.forall_mem_cons.2 ⟨?_, List.forall_mem_nil _⟩)
          refine heldL.step rfl (fun K hK => ?_)
          go_simp
          refine hK.out _ _ (fun h => absurd (show _ = _ from h) (by decide)) ?_
          clear hK K
          try simp only [Act.put, List.setIfInBounds_toArray, List.set_cons_zero, List.set_cons_succ]
          refine heldL.done (by kernel_rfl) ?_ _
          go_wp2_with fail
          go_meet
          refine HFin.out _ _ h9.keeps ?_
          have ho := h9.own
          rw [List.nil_append, List.append_assoc, List.singleton_append, ← HIE.out] at ho
          exact ho
        · refine heldL.step rfl (fun K hK => ?_)
          go_simp
          refine hK.out _ _ (fun _ => HS.out _ KA3.out) ?_
          have hS := HS.out _ KA3.out
          clear hK K
          try simp only [Act.put, List.setIfInBounds_toArray, List.set_cons_zero, List.set_cons_succ]
          refine heldL.all (rs := [8]) (by kernel_rfl) (by simp) (List.forall_mem_cons.2 ⟨?_, List.forall_mem_nil _⟩)
          refine heldL.step rfl (fun K hK => ?_)
          refine step_append_k rfl (.tmp 54) (.tmp 60) rfl (w0 := wc) (by simp [Act.eval]) (by simp [Act.eval]) D3.out (HS1.out _ KA3.out) (by rw [List.length_nil]; omega) KA3.out ?_
          intro v6 w6 h6 kk6
          obtain ⟨a6, n6, rfl⟩ := h6.own.shape
          obtain ⟨q6, hq6⟩ : ∃ q, ([] ++ ([] : List (Int × Int))).length = q := ⟨_, rfl⟩
          rw [hq6] at h6 ⊢
          clear hq6
          refine hK.out _ _ (fun _ => HS.out _ h6.keeps) ?_
          have hS := HS.out _ h6.keeps
          clear hK K
          try simp only [Act.put, List.setIfInBounds_toArray, List.set_cons_zero, List.set_cons_succ]
          have y6 := srcR_lit (Y3.out.keeps kk6 (by simp [Value.ownBlock]))
          refine heldL.all (rs := [11]) (by kernel_rfl) (by simp) (List.forall_mem_cons.2 ⟨?_, List.forall_mem_nil _⟩)
          refine heldL.step rfl (fun K hK => ?_)
          refine step_append_k rfl (.tmp 61) (.tmp 63) rfl (w0 := wc) (by simp [Act.eval]) (by simp [Act.eval]) h6.own y6 (by rw [List.nil_append, List.length_singleton]; omega) h6.keeps ?_
          intro v8 w8 h8 kk8
          obtain ⟨a8, n8, rfl⟩ := h8.own.shape
          obtain ⟨q8, hq8⟩ : ∃ q, (([] ++ ([] : List (Int × Int))) ++ [(id, a)]).length = q := ⟨_, rfl⟩
          rw [hq8] at h8 ⊢
          clear hq8
          refine hK.out _ _ (fun _ => HS.out _ h8.keeps) ?_
          have hS := HS.out _ h8.keeps
          clear hK K
          try simp only [Act.put, List.setIfInBounds_toArray, List.set_cons_zero, List.set_cons_succ]
          refine heldL.all (rs := [18]) (by kernel_rfl) (by simp) (List.forall_mem_cons.2 ⟨?_, List.forall_mem_nil _⟩)
          refine heldL.step rfl (fun K hK => ?_)
          refine step_append_k rfl (.tmp 64) (.tmp 70) rfl (w0 := wc) (by simp [Act.eval]) (by simp [Act.eval]) h8.own (HS1.out _ h8.keeps) (by rw [List.nil_append, List.length_append, List.length_singleton]; omega) h8.keeps ?_
          intro v9 w9 h9 kk9
          obtain ⟨a9, n9, rfl⟩ := h9.own.shape
          obtain ⟨q9, hq9⟩ : ∃ q, ((([] ++ ([] : List (Int × Int))) ++ [(id, a)]) ++ ([] : List (Int × Int))).length = q := ⟨_, rfl⟩
          rw [hq9] at h9 ⊢
          clear hq9
          have c9 := (HC.out _ h9.keeps).cellAt 1 _ rfl
          have f9 := (HC.out _ h9.keeps).frozen 1
          refine hK.out _ _ (fun _ => HS.out _ h9.keeps) ?_
          have hS := HS.out _ h9.keeps
          clear hK K
          try simp only [Act.put, List.setIfInBounds_toArray, List.set_cons_zero, List.set_cons_succ]
          refine heldL.take0 (i := 19) (v := ?_) rfl (by kernel_rfl) (by kernel_rfl) (by kernel_rfl) (fun _ _ _ h => h) (by decide) (Or.inl ⟨by rfl, ?_⟩) (fun _ => hS) ?_
          rotate_left 1
          · (intro w _; go_simp; try with_reducible rfl)
          try simp only [Act.put, List.setIfInBounds_toArray, List.set_cons_zero, List.set_cons_succ]
          refine heldL.take0 (i := 20) (v := ?_) rfl (by kernel_rfl) (by kernel_rfl) (by kernel_rfl) (fun _ _ _ h => h) (by decide) (Or.inl ⟨by rfl, ?_⟩) (fun _ => hS) ?_
          rotate_left 1
          · (intro w _; go_simp; try with_reducible rfl)
          try simp only [Act.put, List.setIfInBounds_toArray, List.set_cons_zero, List.set_cons_succ]
          refine heldL.all (rs := [21]) (by kernel_rfl) (by simp) (List.forall_mem_cons.2 ⟨?_, List.forall_mem_nil _⟩)
          refine heldL.step rfl (fun K hK => ?_)
          go_simp
          refine hK.out _ _ (fun h => absurd (show _ = _ from h) (by decide)) ?_
          clear hK K
          try simp only [Act.put, List.setIfInBounds_toArray, List.set_cons_zero, List.set_cons_succ]
          refine heldL.done (by kernel_rfl) ?_ _
          go_wp2_with fail
          go_meet
          refine HFin.out _ _ h9.keeps ?_
          have ho := h9.own
          rw [List.nil_append, List.append_assoc, List.singleton_append, ← HIE.out] at ho
          exact ho
      · refine heldL.step rfl (fun K hK => ?_)
        go_simp
        refine hK.out _ _ (fun _ => HS.out _ KA2.out) ?_
        have hS := HS.out _ KA2.out
        clear hK K
        try simp only [Act.put, List.setIfInBounds_toArray, List.set_cons_zero, List.set_cons_succ]
        refine heldL.all (rs := [1]) (by kernel_rfl) (by simp) (List.forall_mem_cons.2 ⟨?_, List.forall_mem_nil _⟩)
        refine heldL.step rfl (fun K hK => ?_)
        go_simp
        refine hK.out _ _ (fun _ => HS.out _ KA4.out) ?_
        have hS := HS.out _ KA4.out
        clear hK K
        try simp only [Act.put, List.setIfInBounds_toArray, List.set_cons_zero, List.set_cons_succ]
        refine heldL.all (rs := [8]) (by kernel_rfl) (by simp) (List.forall_mem_cons.2 ⟨?_, List.forall_mem_nil _⟩)
        refine heldL.step rfl (fun K hK => ?_)
        refine step_append_k rfl (.tmp 54) (.tmp 60) rfl (w0 := wc) (by simp [Act.eval]) (by simp [Act.eval]) D4.out (HS1.out _ KA4.out) (by rw [List.length_nil]; omega) KA4.out ?_
        intro v6 w6 h6 kk6
        obtain ⟨a6, n6, rfl⟩ := h6.own.shape
        obtain ⟨q6, hq6⟩ : ∃ q, ([] ++ ([] : List (Int × Int))).length = q := ⟨_, rfl⟩
        rw [hq6] at h6 ⊢
        clear hq6
        refine hK.out _ _ (fun _ => HS.out _ h6.keeps) ?_
        have hS := HS.out _ h6.keeps
        clear hK K
        try simp only [Act.put, List.setIfInBounds_toArray, List.set_cons_zero, List.set_cons_succ]
        have y6 := srcR_lit (Y4.out.keeps kk6 (by simp [Value.ownBlock]))
        refine heldL.all (rs := [11]) (by kernel_rfl) (by simp) (List.forall_mem_cons.2 ⟨?_, List.forall_mem_nil _⟩)
        refine heldL.step rfl (fun K hK => ?_)
        refine step_append_k rfl (.tmp 61) (.tmp 63) rfl (w0 := wc) (by simp [Act.eval]) (by simp [Act.eval]) h6.own y6 (by rw [List.nil_append, List.length_singleton]; omega) h6.keeps ?_
        intro v8 w8 h8 kk8
        obtain ⟨a8, n8, rfl⟩ := h8.own.shape
        obtain ⟨q8, hq8⟩ : ∃ q, (([] ++ ([] : List (Int × Int))) ++ [(id, a)]).length = q := ⟨_, rfl⟩
        rw [hq8] at h8 ⊢
        clear hq8
        refine hK.out _ _ (fun _ => HS.out _ h8.keeps) ?_
        have hS := HS.out _ h8.keeps
        clear hK K
        try simp only [Act.put, List.setIfInBounds_toArray, List.set_cons_zero, List.set_cons_succ]
        refine heldL.all (rs := [18]) (by kernel_rfl) (by simp) (List.forall_mem_cons.2 ⟨?_, List.forall_mem_nil _⟩)
        refine heldL.step rfl (fun K hK => ?_)
        refine step_append_k rfl (.tmp 64) (.tmp 70) rfl (w0 := wc) (by simp [Act.eval]) (by simp [Act.eval]) h8.own (HS1.out _ h8.keeps) (by rw [List.nil_append, List.length_append, List.length_singleton]; omega) h8.keeps ?_
        intro v9 w9 h9 kk9
        obtain ⟨a9, n9, rfl⟩ := h9.own.shape
        obtain ⟨q9, hq9⟩ : ∃ q, ((([] ++ ([] : List (Int × Int))) ++ [(id, a)]) ++ ([] : List (Int × Int))).length = q := ⟨_, rfl⟩
        rw [hq9] at h9 ⊢
        clear hq9
        have c9 := (HC.out _ h9.keeps).cellAt 1 _ rfl
        have f9 := (HC.out _ h9.keeps).frozen 1
        refine hK.out _ _ (fun _ => HS.out _ h9.keeps) ?_
        have hS := HS.out _ h9.keeps
        clear hK K
        try simp only [Act.put, List.setIfInBounds_toArray, List.set_cons_zero, List.set_cons_succ]
        refine heldL.take0 (i := 19) (v := ?_) rfl (by kernel_rfl) (by kernel_rfl) (by kernel_rfl) (fun _ _ _ h => h) (by decide) (Or.inl ⟨by rfl, ?_⟩) (fun _ => hS) ?_
        rotate_left 1
        · (intro w _; go_simp; try with_reducible rfl)
        try simp only [Act.put, List.setIfInBounds_toArray, List.set_cons_zero, List.set_cons_succ]
        refine heldL.take0 (i := 20) (v := ?_) rfl (by kernel_rfl) (by kernel_rfl) (by kernel_rfl) (fun _ _ _ h => h) (by decide) (Or.inl ⟨by rfl, ?_⟩) (fun _ => hS) ?_
        rotate_left 1
        · (intro w _; go_simp; try with_reducible rfl)
        try simp only [Act.put, List.setIfInBounds_toArray, List.set_cons_zero, List.set_cons_succ]
        refine heldL.all (rs := [21]) (by kernel_rfl) (by simp) (List.forall_mem_cons.2 ⟨?_, List.forall_mem_nil _⟩)
        refine heldL.step rfl (fun K hK => ?_)
        go_simp
        refine hK.out _ _ (fun h => absurd (show _ = _ from h) (by decide)) ?_
        clear hK K
        try simp only [Act.put, List.setIfInBounds_toArray, List.set_cons_zero, List.set_cons_succ]
        refine heldL.done (by kernel_rfl) ?_ _
        go_wp2_with fail
        go_meet
        refine HFin.out _ _ h9.keeps ?_
        have ho := h9.own
        rw [List.nil_append, List.append_assoc, List.singleton_append, ← HIE.out] at ho
        exact ho
    · have hcap := hr.len
      have hcm := hr.cap_
      unfold maxLen at hcm
      rw [hn] at hcap hpl hML
      simp only [hn] at HC
      have HS1 := Lib.hid (fun W (kW : Keeps [] wc W) => (hr.keeps kW (by simp)).src0 (j := p) (by omega) cap)
      have hi1 : (0 : Int) ≤ (p : Int) := by omega
      have hi2 : (p : Int) ≤ (n : Int) := by omega
      have hi3 : (n : Int) ≤ (cap : Int) := by omega
      have hi4 : (p : Int) ≤ (cap : Int) := by omega
      by_cases hcp : cap = p
      · have hnp : n = p := by omega
        subst hcp
        subst hnp
        have HS2 := Lib.hid (fun (W : World) (_ : Keeps [] wc W) => show SrcR W (.slice (some ⟨g, 0, none⟩) 0 0) (M.drop n) by rw [List.drop_of_length_le (by omega)]; exact .none _ _ _)
        clear hr hn
        have HS := Lib.hid (fun W (kW : Keeps [] wc W) => show W.cell? ⟨b, 1, none⟩ = some (.slice (some ⟨g, 0, none⟩) n n) ∧ W.cell? ⟨X, 0, none⟩ = some (.int .i64 id) ∧ W.cell? ⟨X, 1, none⟩ = some (.int .i64 a) from ⟨(HC.out _ kW).cellAt 1 _ rfl, (HBU.out.keeps kW (by simp)).cellAt 0 _ rfl, (HBU.out.keeps kW (by simp)).cellAt 1 _ rfl⟩)
        have hS := HS.out _ KA0.out
        refine heldL.begin (m := 21) (S := fun w' => w'.cell? ⟨b, 1, none⟩ = some (.slice (some ⟨g, 0, none⟩) n n) ∧ w'.cell? ⟨X, 0, none⟩ = some (.int .i64 id) ∧ w'.cell? ⟨X, 1, none⟩ = some (.int .i64 a)) (by kernel_rfl) ?_
        refine heldL.take0 (i := 0) (v := ?_) rfl (by kernel_rfl) (by kernel_rfl) (by kernel_rfl) (fun _ _ _ h => h) (by decide) (Or.inl ⟨by rfl, ?_⟩) (fun _ => hS) ?_
        rotate_left 1
        · (intro w _; go_simp; try with_reducible rfl)
        try simp only [Act.put, List.setIfInBounds_toArray, List.set_cons_zero, List.set_cons_succ]
        refine heldL.take0 (i := 2) (v := ?_) rfl (by kernel_rfl) (by kernel_rfl) (by kernel_rfl) (fun _ _ _ h => h) (by decide) (Or.inl ⟨by rfl, ?_⟩) (fun _ => hS) ?_
        rotate_left 1
        · (intro w _; go_simp; try with_reducible rfl)
        try simp only [Act.put, List.setIfInBounds_toArray, List.set_cons_zero, List.set_cons_succ]
        refine heldL.take0 (i := 3) (v := ?_) rfl (by kernel_rfl) (by kernel_rfl) (by kernel_rfl) (fun _ _ _ h => h) (by decide) (Or.inl ⟨by rfl, ?_⟩) (fun _ => hS) ?_
        rotate_left 1
        · (intro w _; go_simp; try with_reducible rfl)
        try simp only [Act.put, List.setIfInBounds_toArray, List.set_cons_zero, List.set_cons_succ]
        refine heldL.take0 (i := 4) (v := ?_) rfl (by kernel_rfl) (by kernel_rfl) (by kernel_rfl) (fun _ _ _ h => h) (by decide) (Or.inl ⟨by rfl, ?_⟩) (fun _ => hS) ?_
        rotate_left 1
        · (intro w _; go_simp; try with_reducible rfl)
        try simp only [Act.put, List.setIfInBounds_toArray, List.set_cons_zero, List.set_cons_succ]
        refine heldL.takeS (i := 5) (v := ?_) rfl (by kernel_rfl) (by kernel_rfl) (by kernel_rfl) (fun _ _ _ h => h) (by decide) rfl (by kernel_rfl) (by unfold Open_; kernel_rfl) (Or.inl ⟨by rfl, ?_⟩) hS ?_
        rotate_left 1
        · (intro w hw; (try dsimp only at hw); go_simp; try with_reducible rfl)
        try simp only [Act.put, List.setIfInBounds_toArray, List.set_cons_zero, List.set_cons_succ]
        refine heldL.take0 (i := 6) (v := ?_) rfl (by kernel_rfl) (by kernel_rfl) (by kernel_rfl) (fun _ _ _ h => h) (by decide) (Or.inl ⟨by rfl, ?_⟩) (fun _ => hS) ?_
        rotate_left 1
        · (intro w _; go_simp; try with_reducible rfl)
        try simp only [Act.put, List.setIfInBounds_toArray, List.set_cons_zero, List.set_cons_succ]
        refine heldL.take0 (i := 7) (v := ?_) rfl (by kernel_rfl) (by kernel_rfl) (by kernel_rfl) (fun _ _ _ h => h) (by decide) (Or.inl ⟨by rfl, ?_⟩) (fun _ => hS) ?_
        rotate_left 1
        · (intro w _; go_simp; try with_reducible rfl)
        try simp only [Act.put, List.setIfInBounds_toArray, List.set_cons_zero, List.set_cons_succ]
        refine heldL.takeS (i := 9) (v := ?_) rfl (by kernel_rfl) (by kernel_rfl) (by kernel_rfl) (fun _ _ _ h => h) (by decide) rfl (by kernel_rfl) (by unfold Open_; kernel_rfl) (Or.inl ⟨by rfl, ?_⟩) hS ?_
        rotate_left 1
        · (intro w hw; (try dsimp only at hw); go_simp; try with_reducible rfl)
        try simp only [Act.put, List.setIfInBounds_toArray, List.set_cons_zero, List.set_cons_succ]
        refine heldL.take0 (i := 12) (v := ?_) rfl (by kernel_rfl) (by kernel_rfl) (by kernel_rfl) (fun _ _ _ h => h) (by decide) (Or.inl ⟨by rfl, ?_⟩) (fun _ => hS) ?_
        rotate_left 1
        · (intro w _; go_simp; try with_reducible rfl)
        try simp only [Act.put, List.setIfInBounds_toArray, List.set_cons_zero, List.set_cons_succ]
        refine heldL.take0 (i := 13) (v := ?_) rfl (by kernel_rfl) (by kernel_rfl) (by kernel_rfl) (fun _ _ _ h => h) (by decide) (Or.inl ⟨by rfl, ?_⟩) (fun _ => hS) ?_
        rotate_left 1
        · (intro w _; go_simp; try with_reducible rfl)
        try simp only [Act.put, List.setIfInBounds_toArray, List.set_cons_zero, List.set_cons_succ]
        refine heldL.take0 (i := 14) (v := ?_) rfl (by kernel_rfl) (by kernel_rfl) (by kernel_rfl) (fun _ _ _ h => h) (by decide) (Or.inl ⟨by rfl, ?_⟩) (fun _ => hS) ?_
        rotate_left 1
        · (intro w _; go_simp; try with_reducible rfl)
        try simp only [Act.put, List.setIfInBounds_toArray, List.set_cons_zero, List.set_cons_succ]
        refine heldL.takeS (i := 15) (v := ?_) rfl (by kernel_rfl) (by kernel_rfl) (by kernel_rfl) (fun _ _ _ h => h) (by decide) rfl (by kernel_rfl) (by unfold Open_; kernel_rfl) (Or.inl ⟨by rfl, ?_⟩) hS ?_
        rotate_left 1
        · (intro w hw; (try dsimp only at hw); go_simp; try with_reducible rfl)
        try simp only [Act.put, List.setIfInBounds_toArray, List.set_cons_zero, List.set_cons_succ]
        refine heldL.take0 (i := 16) (v := ?_) rfl (by kernel_rfl) (by kernel_rfl) (by kernel_rfl) (fun _ _ _ h => h) (by decide) (Or.inl ⟨by rfl, ?_⟩) (fun _ => hS) ?_
        rotate_left 1
        · (intro w _; go_simp; try with_reducible rfl)
        try simp only [Act.put, List.setIfInBounds_toArray, List.set_cons_zero, List.set_cons_succ]
        refine heldL.take0 (i := 17) (v := ?_) rfl (by kernel_rfl) (by kernel_rfl) (by kernel_rfl) (fun _ _ _ h => h) (by decide) (Or.inl ⟨by rfl, ?_⟩) (fun _ => hS) ?_
        rotate_left 1
        · (intro w _; go_simp; try with_reducible rfl)
        try simp only [Act.put, List.setIfInBounds_toArray, List.set_cons_zero, List.set_cons_succ]
        refine heldL.all (rs := [1, 10]) (by kernel_rfl) (by simp) (List.forall_mem_cons.2 ⟨?_, List.forall_mem_cons.2 ⟨?_, List.forall_mem_nil _⟩⟩)
        · refine heldL.step rfl (fun K hK => ?_)
          go_simp
          refine hK.out _ _ (fun _ => HS.out _ KA1.out) ?_
          have hS := HS.out _ KA1.out
          clear hK K
          try simp only [Act.put, List.setIfInBounds_toArray, List.set_cons_zero, List.set_cons_succ]
          refine heldL.all (rs := [8, 10]) (by kernel_rfl) (by simp) (List.forall_mem_cons.2 ⟨?_, List.forall_mem_cons.2 ⟨?_, List.forall_mem_nil _⟩⟩)
          · refine heldL.step rfl (fun K hK => ?_)
            refine step_append_k rfl (.tmp 54) (.tmp 60) rfl (w0 := wc) (by simp [Act.eval]) (by simp [Act.eval]) D1.out (HS1.out _ KA1.out) (by rw [List.length_nil]; omega) KA1.out ?_
            intro v6 w6 h6 kk6
            obtain ⟨a6, n6, rfl⟩ := h6.own.shape
            obtain ⟨q6, hq6⟩ : ∃ q, ([] ++ M.take n).length = q := ⟨_, rfl⟩
            rw [hq6] at h6 ⊢
            clear hq6
            refine hK.out _ _ (fun _ => HS.out _ h6.keeps) ?_
            have hS := HS.out _ h6.keeps
            clear hK K
            try simp only [Act.put, List.setIfInBounds_toArray, List.set_cons_zero, List.set_cons_succ]
            refine heldL.all (rs := [10]) (by kernel_rfl) (by simp) (List.forall_mem_cons.2 ⟨?_, List.forall_mem_nil _⟩)
            refine heldL.step rfl (fun K hK => ?_)
            go_simp
            refine hK.out _ _ (fun _ => HS.out _ (h6.keeps.alloc (.cells #[.int .i64 id, .int .i64 a] 74))) ?_
            have hS := HS.out _ (h6.keeps.alloc (.cells #[.int .i64 id, .int .i64 a] 74))
            clear hK K
            try simp only [Act.put, List.setIfInBounds_toArray, List.set_cons_zero, List.set_cons_succ]
            refine heldL.all (rs := [11]) (by kernel_rfl) (by simp) (List.forall_mem_cons.2 ⟨?_, List.forall_mem_nil _⟩)
            refine heldL.step rfl (fun K hK => ?_)
            refine step_append_k rfl (.tmp 61) (.tmp 63) rfl (w0 := wc) (by simp [Act.eval]) (by simp [Act.eval]) (h6.own.keeps ((Keeps.refl [] w6).alloc (.cells #[.int .i64 id, .int .i64 a] 74)) (by simp)) (srcR_lit (Blk.new w6 74 #[.int .i64 id, .int .i64 a])) (by rw [List.nil_append, List.length_singleton]; omega) (h6.keeps.alloc _) ?_
            intro v8 w8 h8 kk8
            obtain ⟨a8, n8, rfl⟩ := h8.own.shape
            obtain ⟨q8, hq8⟩ : ∃ q, (([] ++ M.take n) ++ [(id, a)]).length = q := ⟨_, rfl⟩
            rw [hq8] at h8 ⊢
            clear hq8
            refine hK.out _ _ (fun _ => HS.out _ h8.keeps) ?_
            have hS := HS.out _ h8.keeps
            clear hK K
            try simp only [Act.put, List.setIfInBounds_toArray, List.set_cons_zero, List.set_cons_succ]
            refine heldL.all (rs := [18]) (by kernel_rfl) (by simp) (List.forall_mem_cons.2 ⟨?_, List.forall_mem_nil _⟩)
            refine heldL.step rfl (fun K hK => ?_)
            refine step_append_k rfl (.tmp 64) (.tmp 70) rfl (w0 := wc) (by simp [Act.eval]) (by simp [Act.eval]) h8.own (HS2.out _ h8.keeps) (by rw [List.nil_append, List.length_append, List.length_singleton]; omega) h8.keeps ?_
            intro v9 w9 h9 kk9
            obtain ⟨a9, n9, rfl⟩ := h9.own.shape
            obtain ⟨q9, hq9⟩ : ∃ q, ((([] ++ M.take n) ++ [(id, a)]) ++ M.drop n).length = q := ⟨_, rfl⟩
            rw [hq9] at h9 ⊢
            clear hq9
            have c9 := (HC.out _ h9.keeps).cellAt 1 _ rfl
            have f9 := (HC.out _ h9.keeps).frozen 1
            refine hK.out _ _ (fun _ => HS.out _ h9.keeps) ?_
            have hS := HS.out _ h9.keeps
            clear hK K
            try simp only [Act.put, List.setIfInBounds_toArray, List.set_cons_zero, List.set_cons_succ]
            refine heldL.take0 (i := 19) (v := ?_) rfl (by kernel_rfl) (by kernel_rfl) (by kernel_rfl) (fun _ _ _ h => h) (by decide) (Or.inl ⟨by rfl, ?_⟩) (fun _ => hS) ?_
            rotate_left 1
            · (intro w _; go_simp; try with_reducible rfl)
            try simp only [Act.put, List.setIfInBounds_toArray, List.set_cons_zero, List.set_cons_succ]
            refine heldL.take0 (i := 20) (v := ?_) rfl (by kernel_rfl) (by kernel_rfl) (by kernel_rfl) (fun _ _ _ h => h) (by decide) (Or.inl ⟨by rfl, ?_⟩) (fun _ => hS) ?_
            rotate_left 1
            · (intro w _; go_simp; try with_reducible rfl)
            try simp only [Act.put, List.setIfInBounds_toArray, List.set_cons_zero, List.set_cons_succ]
            refine heldL.all (rs := [21]) (by kernel_rfl) (by simp) (List.forall_mem_cons.2 ⟨?_, List.forall_mem_nil _⟩)
            refine heldL.step rfl (fun K hK => ?_)
            go_simp
            refine hK.out _ _ (fun h => absurd (show _ = _ from h) (by decide)) ?_
            clear hK K
            try simp only [Act.put, List.setIfInBounds_toArray, List.set_cons_zero, List.set_cons_succ]
            refine heldL.done (by kernel_rfl) ?_ _
            go_wp2_with fail
            go_meet
            refine HFin.out _ _ h9.keeps ?_
            have ho := h9.own
            rw [List.nil_append, List.append_assoc, List.singleton_append, ← HIE.out] at ho
            exact ho
          · refine heldL.step rfl (fun K hK => ?_)
            go_simp
            refine hK.out _ _ (fun _ => HS.out _ KA3.out) ?_
            have hS := HS.out _ KA3.out
            clear hK K
            try simp only [Act.put, List.setIfInBounds_toArray, List.set_cons_zero, List.set_cons_succ]
            refine heldL.all (rs := [8]) (by kernel_rfl) (by simp) (List.forall_mem_cons.2 ⟨?_, List.forall_mem_nil _⟩)
            refine heldL.step rfl (fun K hK => ?_)
            refine step_append_k rfl (.tmp 54) (.tmp 60) rfl (w0 := wc) (by simp [Act.eval]) (by simp [Act.eval]) D3.out (HS1.out _ KA3.out) (by rw [List.length_nil]; omega) KA3.out ?_
            intro v6 w6 h6 kk6
            obtain ⟨a6, n6, rfl⟩ := h6.own.shape
            obtain ⟨q6, hq6⟩ : ∃ q, ([] ++ M.take n).length = q := ⟨_, rfl⟩
            rw [hq6] at h6 ⊢
            clear hq6
            refine hK.out _ _ (fun _ => HS.out _ h6.keeps) ?_
            have hS := HS.out _ h6.keeps
            clear hK K
            try simp only [Act.put, List.setIfInBounds_toArray, List.set_cons_zero, List.set_cons_succ]
            have y6 := srcR_lit (Y3.out.keeps kk6 (by simp [Value.ownBlock]))
            refine heldL.all (rs := [11]) (by kernel_rfl) (by simp) (List.forall_mem_cons.2 ⟨?_, List.forall_mem_nil _⟩)
            refine heldL.step rfl (fun K hK => ?_)
            refine step_append_k rfl (.tmp 61) (.tmp 63) rfl (w0 := wc) (by simp [Act.eval]) (by simp [Act.eval]) h6.own y6 (by rw [List.nil_append, List.length_singleton]; omega) h6.keeps ?_
            intro v8 w8 h8 kk8
            obtain ⟨a8, n8, rfl⟩ := h8.own.shape
            obtain ⟨q8, hq8⟩ : ∃ q, (([] ++ M.take n) ++ [(id, a)]).length = q := ⟨_, rfl⟩
            rw [hq8] at h8 ⊢
            clear hq8
            refine hK.out _ _ (fun _ => HS.out _ h8.keeps) ?_
            have hS := HS.out _ h8.keeps
            clear hK K
            try simp only [Act.put, List.setIfInBounds_toArray, List.set_cons_zero, List.set_cons_succ]
            refine heldL.all (rs := [18]) (by kernel_rfl) (by simp) (List.forall_mem_cons.2 ⟨?_, List.forall_mem_nil _⟩)
            refine heldL.step rfl (fun K hK => ?_)
            refine step_append_k rfl (.tmp 64) (.tmp 70) rfl (w0 := wc) (by simp [Act.eval]) (by simp [Act.eval]) h8.own (HS2.out _ h8.keeps) (by rw [List.nil_append, List.length_append, List.length_singleton]; omega) h8.keeps ?_
            intro v9 w9 h9 kk9
            obtain ⟨a9, n9, rfl⟩ := h9.own.shape
            obtain ⟨q9, hq9⟩ : ∃ q, ((([] ++ M.take n) ++ [(id, a)]) ++ M.drop n).length = q := ⟨_, rfl⟩
            rw [hq9] at h9 ⊢
            clear hq9
            have c9 := (HC.out _ h9.keeps).cellAt 1 _ rfl
            have f9 := (HC.out _ h9.keeps).frozen 1
            refine hK.out _ _ (fun _ => HS.out _ h9.keeps) ?_
            have hS := HS.out _ h9.keeps
            clear hK K
            try simp only [Act.put, List.setIfInBounds_toArray, List.set_cons_zero, List.set_cons_succ]
            refine heldL.take0 (i := 19) (v := ?_) rfl (by kernel_rfl) (by kernel_rfl) (by kernel_rfl) (fun _ _ _ h => h) (by decide) (Or.inl ⟨by rfl, ?_⟩) (fun _ => hS) ?_
            rotate_left 1
            · (intro w _; go_simp; try with_reducible rfl)
            try simp only [Act.put, List.setIfInBounds_toArray, List.set_cons_zero, List.set_cons_succ]
            refine heldL.take0 (i := 20) (v := ?_) rfl (by kernel_rfl) (by kernel_rfl) (by kernel_rfl) (fun _ _ _ h => h) (by decide) (Or.inl ⟨by rfl, ?_⟩) (fun _ => hS) ?_
            rotate_left 1
            · (intro w _; go_simp; try with_reducible rfl)
            try simp only [Act.put, List.setIfInBounds_toArray, List.set_cons_zero, List.set_cons_succ]
            refine heldL.all (rs := [21]) (by kernel_rfl) (by simp) (List.forall_mem_cons.2 ⟨?_, List.forall_mem_nil _⟩)
            refine heldL.step rfl (fun K hK => ?_)
            go_simp
            refine hK.out _ _ (fun h => absurd (show _ = _ from h) (by decide)) ?_
            clear hK K
            try simp only [Act.put, List.setIfInBounds_toArray, List.set_cons_zero, List.set_cons_succ]
            refine heldL.done (by kernel_rfl) ?_ _
            go_wp2_with fail
            go_meet
            refine HFin.out _ _ h9.keeps ?_
            have ho := h9.own
            rw [List.nil_append, List.append_assoc, List.singleton_append, ← HIE.out] at ho
            exact ho
        · refine heldL.step rfl (fun K hK => ?_)
          go_simp
          refine hK.out _ _ (fun _ => HS.out _ KA2.out) ?_
          have hS := HS.out _ KA2.out
          clear hK K
          try simp only [Act.put, List.setIfInBounds_toArray, List.set_cons_zero, List.set_cons_succ]
          refine heldL.all (rs := [1]) (by kernel_rfl) (by simp) (List.forall_mem_cons.2 ⟨?_, List.forall_mem_nil _⟩)
          refine heldL.step rfl (fun K hK => ?_)
          go_simp
          refine hK.out _ _ (fun _ => HS.out _ KA4.out) ?_
          have hS := HS.out _ KA4.out
          clear hK K
          try simp only [Act.put, List.setIfInBounds_toArray, List.set_cons_zero, List.set_cons_succ]
          refine heldL.all (rs := [8]) (by kernel_rfl) (by simp) (List.forall_mem_cons.2 ⟨?_, List.forall_mem_nil _⟩)
          refine heldL.step rfl (fun K hK => ?_)
          refine step_append_k rfl (.tmp 54) (.tmp 60) rfl (w0 := wc) (by simp [Act.eval]) (by simp [Act.eval]) D4.out (HS1.out _ KA4.out) (by rw [List.length_nil]; omega) KA4.out ?_
          intro v6 w6 h6 kk6
          obtain ⟨a6, n6, rfl⟩ := h6.own.shape
          obtain ⟨q6, hq6⟩ : ∃ q, ([] ++ M.take n).length = q := ⟨_, rfl⟩
          rw [hq6] at h6 ⊢
          clear hq6
          refine hK.out _ _ (fun _ => HS.out _ h6.keeps) ?_
          have hS := HS.out _ h6.keeps
          clear hK K
          try simp only [Act.put, List.setIfInBounds_toArray, List.set_cons_zero, List.set_cons_succ]
          have y6 := srcR_lit (Y4.out.keeps kk6 (by simp [Value.ownBlock]))
          refine heldL.all (rs := [11]) (by kernel_rfl) (by simp) (List.forall_mem_cons.2 ⟨?_, List.forall_mem_nil _⟩)
          refine heldL.step rfl (fun K hK => ?_)
          refine step_append_k rfl (.tmp 61) (.tmp 63) rfl (w0 := wc) (by simp [Act.eval]) (by simp [Act.eval]) h6.own y6 (by rw [List.nil_append, List.length_singleton]; omega) h6.keeps ?_
          intro v8 w8 h8 kk8
          obtain ⟨a8, n8, rfl⟩ := h8.own.shape
          obtain ⟨q8, hq8⟩ : ∃ q, (([] ++ M.take n) ++ [(id, a)]).length = q := ⟨_, rfl⟩
          rw [hq8] at h8 ⊢
          clear hq8
          refine hK.out _ _ (fun _ => HS.out _ h8.keeps) ?_
          have hS := HS.out _ h8.keeps
          clear hK K
          try simp only [Act.put, List.setIfInBounds_toArray, List.set_cons_zero, List.set_cons_succ]
          refine heldL.all (rs := [18]) (by kernel_rfl) (by simp) (List.forall_mem_cons.2 ⟨?_, List.forall_mem_nil _⟩)
          refine heldL.step rfl (fun K hK => ?_)
          refine step_append_k rfl (.tmp 64) (.tmp 70) rfl (w0 := wc) (by simp [Act.eval]) (by simp [Act.eval]) h8.own (HS2.out _ h8.keeps) (by rw [List.nil_append, List.length_append, List.length_singleton]; omega) h8.keeps ?_
          intro v9 w9 h9 kk9
          obtain ⟨a9, n9, rfl⟩ := h9.own.shape
          obtain ⟨q9, hq9⟩ : ∃ q, ((([] ++ M.take n) ++ [(id, a)]) ++ M.drop n).length = q := ⟨_, rfl⟩
          rw [hq9] at h9 ⊢
          clear hq9
          have c9 := (HC.out _ h9.keeps).cellAt 1 _ rfl
          have f9 := (HC.out _ h9.keeps).frozen 1
          refine hK.out _ _ (fun _ => HS.out _ h9.keeps) ?_
          have hS := HS.out _ h9.keeps
          clear hK K
          try simp only [Act.put, List.setIfInBounds_toArray, List.set_cons_zero, List.set_cons_succ]
          refine heldL.take0 (i := 19) (v := ?_) rfl (by kernel_rfl) (by kernel_rfl) (by kernel_rfl) (fun _ _ _ h => h) (by decide) (Or.inl ⟨by rfl, ?_⟩) (fun _ => hS) ?_
          rotate_left 1
          · (intro w _; go_simp; try with_reducible rfl)
          try simp only [Act.put, List.setIfInBounds_toArray, List.set_cons_zero, List.set_cons_succ]
          refine heldL.take0 (i := 20) (v := ?_) rfl (by kernel_rfl) (by kernel_rfl) (by kernel_rfl) (fun _ _ _ h => h) (by decide) (Or.inl ⟨by rfl, ?_⟩) (fun _ => hS) ?_
          rotate_left 1
          · (intro w _; go_simp; try with_reducible rfl)
          try simp only [Act.put, List.setIfInBounds_toArray, List.set_cons_zero, List.set_cons_succ]
          refine heldL.all (rs := [21]) (by kernel_rfl) (by simp) (List.forall_mem_cons.2 ⟨?_, List.forall_mem_nil _⟩)
          refine heldL.step rfl (fun K hK => ?_)
          go_simp
          refine hK.out _ _ (fun h => absurd (show _ = _ from h) (by decide)) ?_
          clear hK K
          try simp only [Act.put, List.setIfInBounds_toArray, List.set_cons_zero, List.set_cons_succ]
          refine heldL.done (by kernel_rfl) ?_ _
          go_wp2_with fail
          go_meet
          refine HFin.out _ _ h9.keeps ?_
          have ho := h9.own
          rw [List.nil_append, List.append_assoc, List.singleton_append, ← HIE.out] at ho
          exact ho
      · have HS2 := Lib.hid (fun (W : World) (kW : Keeps [] wc W) => show SrcR W (.slice (some ⟨g, p * 2, none⟩) (n - p) (cap - p)) (M.drop p) by
          have := (hr.keeps kW (by simp)).srcE (i := p) (by omega) (cap - p)
          rwa [hn] at this)
        clear hr hn
        have HS := Lib.hid (fun W (kW : Keeps [] wc W) => show W.cell? ⟨b, 1, none⟩ = some (.slice (some ⟨g, 0, none⟩) n cap) ∧ W.cell? ⟨X, 0, none⟩ = some (.int .i64 id) ∧ W.cell? ⟨X, 1, none⟩ = some (.int .i64 a) from ⟨(HC.out _ kW).cellAt 1 _ rfl, (HBU.out.keeps kW (by simp)).cellAt 0 _ rfl, (HBU.out.keeps kW (by simp)).cellAt 1 _ rfl⟩)
        have hS := HS.out _ KA0.out
        refine heldL.begin (m := 21) (S := fun w' => w'.cell? ⟨b, 1, none⟩ = some (.slice (some ⟨g, 0, none⟩) n cap) ∧ w'.cell? ⟨X, 0, none⟩ = some (.int .i64 id) ∧ w'.cell? ⟨X, 1, none⟩ = some (.int .i64 a)) (by kernel_rfl) ?_
        refine heldL.take0 (i := 0) (v := ?_) rfl (by kernel_rfl) (by kernel_rfl) (by kernel_rfl) (fun _ _ _ h => h) (by decide) (Or.inl ⟨by rfl, ?_⟩) (fun _ => hS) ?_
        rotate_left 1
        · (intro w _; go_simp; try with_reducible rfl)
        try simp only [Act.put, List.setIfInBounds_toArray, List.set_cons_zero, List.set_cons_succ]
        refine heldL.take0 (i := 2) (v := ?_) rfl (by kernel_rfl) (by kernel_rfl) (by kernel_rfl) (fun _ _ _ h => h) (by decide) (Or.inl ⟨by rfl, ?_⟩) (fun _ => hS) ?_
        rotate_left 1
        · (intro w _; go_simp; try with_reducible rfl)
        try simp only [Act.put, List.setIfInBounds_toArray, List.set_cons_zero, List.set_cons_succ]
        refine heldL.take0 (i := 3) (v := ?_) rfl (by kernel_rfl) (by kernel_rfl) (by kernel_rfl) (fun _ _ _ h => h) (by decide) (Or.inl ⟨by rfl, ?_⟩) (fun _ => hS) ?_
        rotate_left 1
        · (intro w _; go_simp; try with_reducible rfl)
        try simp only [Act.put, List.setIfInBounds_toArray, List.set_cons_zero, List.set_cons_succ]
        refine heldL.take0 (i := 4) (v := ?_) rfl (by kernel_rfl) (by kernel_rfl) (by kernel_rfl) (fun _ _ _ h => h) (by decide) (Or.inl ⟨by rfl, ?_⟩) (fun _ => hS) ?_
        rotate_left 1
        · (intro w _; go_simp; try with_reducible rfl)
        try simp only [Act.put, List.setIfInBounds_toArray, List.set_cons_zero, List.set_cons_succ]
        refine heldL.takeS (i := 5) (v := ?_) rfl (by kernel_rfl) (by kernel_rfl) (by kernel_rfl) (fun _ _ _ h => h) (by decide) rfl (by kernel_rfl) (by unfold Open_; kernel_rfl) (Or.inl ⟨by rfl, ?_⟩) hS ?_
        rotate_left 1
        · (intro w hw; (try dsimp only at hw); go_simp; try with_reducible rfl)
        try simp only [Act.put, List.setIfInBounds_toArray, List.set_cons_zero, List.set_cons_succ]
        refine heldL.take0 (i := 6) (v := ?_) rfl (by kernel_rfl) (by kernel_rfl) (by kernel_rfl) (fun _ _ _ h => h) (by decide) (Or.inl ⟨by rfl, ?_⟩) (fun _ => hS) ?_
        rotate_left 1
        · (intro w _; go_simp; try with_reducible rfl)
        try simp only [Act.put, List.setIfInBounds_toArray, List.set_cons_zero, List.set_cons_succ]
        refine heldL.take0 (i := 7) (v := ?_) rfl (by kernel_rfl) (by kernel_rfl) (by kernel_rfl) (fun _ _ _ h => h) (by decide) (Or.inl ⟨by rfl, ?_⟩) (fun _ => hS) ?_
        rotate_left 1
        · (intro w _; go_simp; try with_reducible rfl)
        try simp only [Act.put, List.setIfInBounds_toArray, List.set_cons_zero, List.set_cons_succ]
        refine heldL.takeS (i := 9) (v := ?_) rfl (by kernel_rfl) (by kernel_rfl) (by kernel_rfl) (fun _ _ _ h => h) (by decide) rfl (by kernel_rfl) (by unfold Open_; kernel_rfl) (Or.inl ⟨by rfl, ?_⟩) hS ?_
        rotate_left 1
        · (intro w hw; (try dsimp only at hw); go_simp; try with_reducible rfl)
        try simp only [Act.put, List.setIfInBounds_toArray, List.set_cons_zero, List.set_cons_succ]
        refine heldL.take0 (i := 12) (v := ?_) rfl (by kernel_rfl) (by kernel_rfl) (by kernel_rfl) (fun _ _ _ h => h) (by decide) (Or.inl ⟨by rfl, ?_⟩) (fun _ => hS) ?_
        rotate_left 1
        · (intro w _; go_simp; try with_reducible rfl)
        try simp only [Act.put, List.setIfInBounds_toArray, List.set_cons_zero, List.set_cons_succ]
        refine heldL.take0 (i := 13) (v := ?_) rfl (by kernel_rfl) (by kernel_rfl) (by kernel_rfl) (fun _ _ _ h => h) (by decide) (Or.inl ⟨by rfl, ?_⟩) (fun _ => hS) ?_
        rotate_left 1
        · (intro w _; go_simp; try with_reducible rfl)
        try simp only [Act.put, List.setIfInBounds_toArray, List.set_cons_zero, List.set_cons_succ]
        refine heldL.take0 (i := 14) (v := ?_) rfl (by kernel_rfl) (by kernel_rfl) (by kernel_rfl) (fun _ _ _ h => h) (by decide) (Or.inl ⟨by rfl, ?_⟩) (fun _ => hS) ?_
        rotate_left 1
        · (intro w _; go_simp; try with_reducible rfl)
        try simp only [Act.put, List.setIfInBounds_toArray, List.set_cons_zero, List.set_cons_succ]
        refine heldL.takeS (i := 15) (v := ?_) rfl (by kernel_rfl) (by kernel_rfl) (by kernel_rfl) (fun _ _ _ h => h) (by decide) rfl (by kernel_rfl) (by unfold Open_; kernel_rfl) (Or.inl ⟨by rfl, ?_⟩) hS ?_
        rotate_left 1
        · (intro w hw; (try dsimp only at hw); go_simp; try with_reducible rfl)
        try simp only [Act.put, List.setIfInBounds_toArray, List.set_cons_zero, List.set_cons_succ]
        refine heldL.take0 (i := 16) (v := ?_) rfl (by kernel_rfl) (by kernel_rfl) (by kernel_rfl) (fun _ _ _ h => h) (by decide) (Or.inl ⟨by rfl, ?_⟩) (fun _ => hS) ?_
        rotate_left 1
        · (intro w _; go_simp; try with_reducible rfl)
        try simp only [Act.put, List.setIfInBounds_toArray, List.set_cons_zero, List.set_cons_succ]
        refine heldL.take0 (i := 17) (v := ?_) rfl (by kernel_rfl) (by kernel_rfl) (by kernel_rfl) (fun _ _ _ h => h) (by decide) (Or.inl ⟨by rfl, ?_⟩) (fun _ => hS) ?_
        rotate_left 1
        · (intro w _; go_simp; try with_reducible rfl)
        try simp only [Act.put, List.setIfInBounds_toArray, List.set_cons_zero, List.set_cons_succ]
        refine heldL.all (rs := [1, 10]) (by kernel_rfl) (by simp) (List.forall_mem_cons.2 ⟨?_, List.forall_mem_cons.2 ⟨?_, List.forall_mem_nil _⟩⟩)
        · refine heldL.step rfl (fun K hK => ?_)
          go_simp
          refine hK.out _ _ (fun _ => HS.out _ KA1.out) ?_
          have hS := HS.out _ KA1.out
          clear hK K
          try simp only [Act.put, List.setIfInBounds_toArray, List.set_cons_zero, List.set_cons_succ]
          refine heldL.all (rs := [8, 10]) (by kernel_rfl) (by simp) (List.forall_mem_cons.2 ⟨?_, List.forall_mem_cons.2 ⟨?_, List.forall_mem_nil _⟩⟩)
          · refine heldL.step rfl (fun K hK => ?_)
            refine step_append_k rfl (.tmp 54) (.tmp 60) rfl (w0 := wc) (by simp [Act.eval]) (by simp [Act.eval]) D1.out (HS1.out _ KA1.out) (by rw [List.length_nil]; omega) KA1.out ?_
            intro v6 w6 h6 kk6
            obtain ⟨a6, n6, rfl⟩ := h6.own.shape
            obtain ⟨q6, hq6⟩ : ∃ q, ([] ++ M.take p).length = q := ⟨_, rfl⟩
            rw [hq6] at h6 ⊢
            clear hq6
            refine hK.out _ _ (fun _ => HS.out _ h6.keeps) ?_
            have hS := HS.out _ h6.keeps
            clear hK K
            try simp only [Act.put, List.setIfInBounds_toArray, List.set_cons_zero, List.set_cons_succ]
            refine heldL.all (rs := [10]) (by kernel_rfl) (by simp) (List.forall_mem_cons.2 ⟨?_, List.forall_mem_nil _⟩)
            refine heldL.step rfl (fun K hK => ?_)
            go_simp
            refine hK.out _ _ (fun _ => HS.out _ (h6.keeps.alloc (.cells #[.int .i64 id, .int .i64 a] 74))) ?_
            have hS := HS.out _ (h6.keeps.alloc (.cells #[.int .i64 id, .int .i64 a] 74))
            clear hK K
            try simp only [Act.put, List.setIfInBounds_toArray, List.set_cons_zero, List.set_cons_succ]
            refine heldL.all (rs := [11]) (by kernel_rfl) (by simp) (List.forall_mem_cons.2 ⟨?_, List.forall_mem_nil _⟩)
            refine heldL.step rfl (fun K hK => ?_)
            refine step_append_k rfl (.tmp 61) (.tmp 63) rfl (w0 := wc) (by simp [Act.eval]) (by simp [Act.eval]) (h6.own.keeps ((Keeps.refl [] w6).alloc (.cells #[.int .i64 id, .int .i64 a] 74)) (by simp)) (srcR_lit (Blk.new w6 74 #[.int .i64 id, .int .i64 a])) (by rw [List.nil_append, List.length_singleton]; omega) (h6.keeps.alloc _) ?_
            intro v8 w8 h8 kk8
            obtain ⟨a8, n8, rfl⟩ := h8.own.shape
            obtain ⟨q8, hq8⟩ : ∃ q, (([] ++ M.take p) ++ [(id, a)]).length = q := ⟨_, rfl⟩
            rw [hq8] at h8 ⊢
            clear hq8
            refine hK.out _ _ (fun _ => HS.out _ h8.keeps) ?_
            have hS := HS.out _ h8.keeps
            clear hK K
            try simp only [Act.put, List.setIfInBounds_toArray, List.set_cons_zero, List.set_cons_succ]
            refine heldL.all (rs := [18]) (by kernel_rfl) (by simp) (List.forall_mem_cons.2 ⟨?_, List.forall_mem_nil _⟩)
            refine heldL.step rfl (fun K hK => ?_)
            refine step_append_k rfl (.tmp 64) (.tmp 70) rfl (w0 := wc) (by simp [Act.eval]) (by simp [Act.eval]) h8.own (HS2.out _ h8.keeps) (by rw [List.nil_append, List.length_append, List.length_singleton]; omega) h8.keeps ?_
            intro v9 w9 h9 kk9
            obtain ⟨a9, n9, rfl⟩ := h9.own.shape
            obtain ⟨q9, hq9⟩ : ∃ q, ((([] ++ M.take p) ++ [(id, a)]) ++ M.drop p).length = q := ⟨_, rfl⟩
            rw [hq9] at h9 ⊢
            clear hq9
            have c9 := (HC.out _ h9.keeps).cellAt 1 _ rfl
            have f9 := (HC.out _ h9.keeps).frozen 1
            refine hK.out _ _ (fun _ => HS.out _ h9.keeps) ?_
            have hS := HS.out _ h9.keeps
            clear hK K
            try simp only [Act.put, List.setIfInBounds_toArray, List.set_cons_zero, List.set_cons_succ]
            refine heldL.take0 (i := 19) (v := ?_) rfl (by kernel_rfl) (by kernel_rfl) (by kernel_rfl) (fun _ _ _ h => h) (by decide) (Or.inl ⟨by rfl, ?_⟩) (fun _ => hS) ?_
            rotate_left 1
            · (intro w _; go_simp; try with_reducible rfl)
            try simp only [Act.put, List.setIfInBounds_toArray, List.set_cons_zero, List.set_cons_succ]
            refine heldL.take0 (i := 20) (v := ?_) rfl (by kernel_rfl) (by kernel_rfl) (by kernel_rfl) (fun _ _ _ h => h) (by decide) (Or.inl ⟨by rfl, ?_⟩) (fun _ => hS) ?_
            rotate_left 1
            · (intro w _; go_simp; try with_reducible rfl)
            try simp only [Act.put, List.setIfInBounds_toArray, List.set_cons_zero, List.set_cons_succ]
            refine heldL.all (rs := [21]) (by kernel_rfl) (by simp) (List.forall_mem_cons.2 ⟨?_, List.forall_mem_nil _⟩)
            refine heldL.step rfl (fun K hK => ?_)
            go_simp
            refine hK.out _ _ (fun h => absurd (show _ = _ from h) (by decide)) ?_
            clear hK K
            try simp only [Act.put, List.setIfInBounds_toArray, List.set_cons_zero, List.set_cons_succ]
            refine heldL.done (by kernel_rfl) ?_ _
            go_wp2_with fail
            go_meet
            refine HFin.out _ _ h9.keeps ?_
            have ho := h9.own
            rw [List.nil_append, List.append_assoc, List.singleton_append, ← HIE.out] at ho
            exact ho
          · refine heldL.step rfl (fun K hK => ?_)
            go_simp
            refine hK.out _ _ (fun _ => HS.out _ KA3.out) ?_
            have hS := HS.out _ KA3.out
            clear hK K
            try simp only [Act.put, List.setIfInBounds_toArray, List.set_cons_zero, List.set_cons_succ]
            refine heldL.all (rs := [8]) (by kernel_rfl) (by simp) (List.forall_mem_cons.2 ⟨?_, List.forall_mem_nil _⟩)
            refine heldL.step rfl (fun K hK => ?_)
            refine step_append_k rfl (.tmp 54) (.tmp 60) rfl (w0 := wc) (by simp [Act.eval]) (by simp [Act.eval]) D3.out (HS1.out _ KA3.out) (by rw [List.length_nil]; omega) KA3.out ?_
            intro v6 w6 h6 kk6
            obtain ⟨a6, n6, rfl⟩ := h6.own.shape
            obtain ⟨q6, hq6⟩ : ∃ q, ([] ++ M.take p).length = q := ⟨_, rfl⟩
            rw [hq6] at h6 ⊢
            clear hq6
            refine hK.out _ _ (fun _ => HS.out _ h6.keeps) ?_
            have hS := HS.out _ h6.keeps
            clear hK K
            try simp only [Act.put, List.setIfInBounds_toArray, List.set_cons_zero, List.set_cons_succ]
            have y6 := srcR_lit (Y3.out.keeps kk6 (by simp [Value.ownBlock]))
            refine heldL.all (rs := [11]) (by kernel_rfl) (by simp) (List.forall_mem_cons.2 ⟨?_, List.forall_mem_nil _⟩)
            refine heldL.step rfl (fun K hK => ?_)
            refine step_append_k rfl (.tmp 61) (.tmp 63) rfl (w0 := wc) (by simp [Act.eval]) (by simp [Act.eval]) h6.own y6 (by rw [List.nil_append, List.length_singleton]; omega) h6.keeps ?_
            intro v8 w8 h8 kk8
            obtain ⟨a8, n8, rfl⟩ := h8.own.shape
            obtain ⟨q8, hq8⟩ : ∃ q, (([] ++ M.take p) ++ [(id, a)]).length = q := ⟨_, rfl⟩
            rw [hq8] at h8 ⊢
            clear hq8
            refine hK.out _ _ (fun _ => HS.out _ h8.keeps) ?_
            have hS := HS.out _ h8.keeps
            clear hK K
            try simp only [Act.put, List.setIfInBounds_toArray, List.set_cons_zero, List.set_cons_succ]
            refine heldL.all (rs := [18]) (by kernel_rfl) (by simp) (List.forall_mem_cons.2 ⟨?_, List.forall_mem_nil _⟩)
            refine heldL.step rfl (fun K hK => ?_)
            refine step_append_k rfl (.tmp 64) (.tmp 70) rfl (w0 := wc) (by simp [Act.eval]) (by simp [Act.eval]) h8.own (HS2.out _ h8.keeps) (by rw [List.nil_append, List.length_append, List.length_singleton]; omega) h8.keeps ?_
            intro v9 w9 h9 kk9
            obtain ⟨a9, n9, rfl⟩ := h9.own.shape
            obtain ⟨q9, hq9⟩ : ∃ q, ((([] ++ M.take p) ++ [(id, a)]) ++ M.drop p).length = q := ⟨_, rfl⟩
            rw [hq9] at h9 ⊢
            clear hq9
            have c9 := (HC.out _ h9.keeps).cellAt 1 _ rfl
            have f9 := (HC.out _ h9.keeps).frozen 1
            refine hK.out _ _ (fun _ => HS.out _ h9.keeps) ?_
            have hS := HS.out _ h9.keeps
            clear hK K
            try simp only [Act.put, List.setIfInBounds_toArray, List.set_cons_zero, List.set_cons_succ]
            refine heldL.take0 (i := 19) (v := ?_) rfl (by kernel_rfl) (by kernel_rfl) (by kernel_rfl) (fun _ _ _ h => h) (by decide) (Or.inl ⟨by rfl, ?_⟩) (fun _ => hS) ?_
            rotate_left 1
            · (intro w _; go_simp; try with_reducible rfl)
            try simp only [Act.put, List.setIfInBounds_toArray, List.set_cons_zero, List.set_cons_succ]
            refine heldL.take0 (i := 20) (v := ?_) rfl (by kernel_rfl) (by kernel_rfl) (by kernel_rfl) (fun _ _ _ h => h) (by decide) (Or.inl ⟨by rfl, ?_⟩) (fun _ => hS) ?_
            rotate_left 1
            · (intro w _; go_simp; try with_reducible rfl)
            try simp only [Act.put, List.setIfInBounds_toArray, List.set_cons_zero, List.set_cons_succ]
            refine heldL.all (rs := [21]) (by kernel_rfl) (by simp) (List.forall_mem_cons.2 ⟨?_, List.forall_mem_nil _⟩)
            refine heldL.step rfl (fun K hK => ?_)
            go_simp
            refine hK.out _ _ (fun h => absurd (show _ = _ from h) (by decide)) ?_
            clear hK K
            try simp only [Act.put, List.setIfInBounds_toArray, List.set_cons_zero, List.set_cons_succ]
            refine heldL.done (by kernel_rfl) ?_ _
            go_wp2_with fail
            go_meet
            refine HFin.out _ _ h9.keeps ?_
            have ho := h9.own
            rw [List.nil_append, List.append_assoc, List.singleton_append, ← HIE.out] at ho
            exact ho
        · refine heldL.step rfl (fun K hK => ?_)
          go_simp
          refine hK.out _ _ (fun _ => HS.out _ KA2.out) ?_
          have hS := HS.out _ KA2.out
          clear hK K
          try simp only [Act.put, List.setIfInBounds_toArray, List.set_cons_zero, List.set_cons_succ]
          refine heldL.all (rs := [1]) (by kernel_rfl) (by simp) (List.forall_mem_cons.2 ⟨?_, List.forall_mem_nil _⟩)
          refine heldL.step rfl (fun K hK => ?_)
          go_simp
          refine hK.out _ _ (fun _ => HS.out _ KA4.out) ?_
          have hS := HS.out _ KA4.out
          clear hK K
          try simp only [Act.put, List.setIfInBounds_toArray, List.set_cons_zero, List.set_cons_succ]
          refine heldL.all (rs := [8]) (by kernel_rfl) (by simp) (List.forall_mem_cons.2 ⟨?_, List.forall_mem_nil _⟩)
          refine heldL.step rfl (fun K hK => ?_)
          refine step_append_k rfl (.tmp 54) (.tmp 60) rfl (w0 := wc) (by simp [Act.eval]) (by simp [Act.eval]) D4.out (HS1.out _ KA4.out) (by rw [List.length_nil]; omega) KA4.out ?_
          intro v6 w6 h6 kk6
          obtain ⟨a6, n6, rfl⟩ := h6.own.shape
          obtain ⟨q6, hq6⟩ : ∃ q, ([] ++ M.take p).length = q := ⟨_, rfl⟩
          rw [hq6] at h6 ⊢
          clear hq6
          refine hK.out _ _ (fun _ => HS.out _ h6.keeps) ?_
          have hS := HS.out _ h6.keeps
          clear hK K
          try simp only [Act.put, List.setIfInBounds_toArray, List.set_cons_zero, List.set_cons_succ]
          have y6 := srcR_lit (Y4.out.keeps kk6 (by simp [Value.ownBlock]))
          refine heldL.all (rs := [11]) (by kernel_rfl) (by simp) (List.forall_mem_cons.2 ⟨?_, List.forall_mem_nil _⟩)
          refine heldL.step rfl (fun K hK => ?_)
          refine step_append_k rfl (.tmp 61) (.tmp 63) rfl (w0 := wc) (by simp [Act.eval]) (by simp [Act.eval]) h6.own y6 (by rw [List.nil_append, List.length_singleton]; omega) h6.keeps ?_
          intro v8 w8 h8 kk8
          obtain ⟨a8, n8, rfl⟩ := h8.own.shape
          obtain ⟨q8, hq8⟩ : ∃ q, (([] ++ M.take p) ++ [(id, a)]).length = q := ⟨_, rfl⟩
          rw [hq8] at h8 ⊢
          clear hq8
          refine hK.out _ _ (fun _ => HS.out _ h8.keeps) ?_
          have hS := HS.out _ h8.keeps
          clear hK K
          try simp only [Act.put, List.setIfInBounds_toArray, List.set_cons_zero, List.set_cons_succ]
          refine heldL.all (rs := [18]) (by kernel_rfl) (by simp) (List.forall_mem_cons.2 ⟨?_, List.forall_mem_nil _⟩)
          refine heldL.step rfl (fun K hK => ?_)
          refine step_append_k rfl (.tmp 64) (.tmp 70) rfl (w0 := wc) (by simp [Act.eval]) (by simp [Act.eval]) h8.own (HS2.out _ h8.keeps) (by rw [List.nil_append, List.length_append, List.length_singleton]; omega) h8.keeps ?_
          intro v9 w9 h9 kk9
          obtain ⟨a9, n9, rfl⟩ := h9.own.shape
          obtain ⟨q9, hq9⟩ : ∃ q, ((([] ++ M.take p) ++ [(id, a)]) ++ M.drop p).length = q := ⟨_, rfl⟩
          rw [hq9] at h9 ⊢
          clear hq9
          have c9 := (HC.out _ h9.keeps).cellAt 1 _ rfl
          have f9 := (HC.out _ h9.keeps).frozen 1
          refine hK.out _ _ (fun _ => HS.out _ h9.keeps) ?_
          have hS := HS.out _ h9.keeps
          clear hK K
          try simp only [Act.put, List.setIfInBounds_toArray, List.set_cons_zero, List.set_cons_succ]
          refine heldL.take0 (i := 19) (v := ?_) rfl (by kernel_rfl) (by kernel_rfl) (by kernel_rfl) (fun _ _ _ h => h) (by decide) (Or.inl ⟨by rfl, ?_⟩) (fun _ => hS) ?_
          rotate_left 1
          · (intro w _; go_simp; try with_reducible rfl)
          try simp only [Act.put, List.setIfInBounds_toArray, List.set_cons_zero, List.set_cons_succ]
          refine heldL.take0 (i := 20) (v := ?_) rfl (by kernel_rfl) (by kernel_rfl) (by kernel_rfl) (fun _ _ _ h => h) (by decide) (Or.inl ⟨by rfl, ?_⟩) (fun _ => hS) ?_
          rotate_left 1
          · (intro w _; go_simp; try with_reducible rfl)
          try simp only [Act.put, List.setIfInBounds_toArray, List.set_cons_zero, List.set_cons_succ]
          refine heldL.all (rs := [21]) (by kernel_rfl) (by simp) (List.forall_mem_cons.2 ⟨?_, List.forall_mem_nil _⟩)
          refine heldL.step rfl (fun K hK => ?_)
          go_simp
          refine hK.out _ _ (fun h => absurd (show _ = _ from h) (by decide)) ?_
          clear hK K
          try simp only [Act.put, List.setIfInBounds_toArray, List.set_cons_zero, List.set_cons_succ]
          refine heldL.done (by kernel_rfl) ?_ _
          go_wp2_with fail
          go_meet
          refine HFin.out _ _ h9.keeps ?_
          have ho := h9.own
          rw [List.nil_append, List.append_assoc, List.singleton_append, ← HIE.out] at ho
          exact ho
  case rest =>
  clear x0 x1
  go_wp2_with fail
  go_ret
  exact ⟨rfl, hcut⟩
end Go.Proofs.Ytognnjaefaoefaa
