/- The contract of the iterator over the numbers of a set. Condition: a set that New or Copy made; the table of trailing zeros lies in its block. -/
import Derived.Test.YtcdnflffpeijfaaDoorNums
import Derived.Test.YtcdnflffpeijfaaDoorTail
namespace Go.Proofs.YtcdnflffpeijfaaDoor
open Go.RowKit Go.Shelf

attribute [local go_sem] Oper.semAt_some

/-- The table of TrailingZeros64. -/
def Table (w : World) : Prop := TabAt 0 Lib.deBruijn64tab w
theorem Table.keepn {n : Nat} {S : List Nat} {w w' : World} (h : Table w) (k : Keepn n S w w') (hn : 0 < n) (hS : 0 ∉ S) : Table w' := fun j hj => (World.cell?_of_block (k.block 0 hn hS)).trans (h j hj)
theorem Table.keeps {S : List Nat} {w w' : World} (h : Table w) (k : Keeps S w w') (hn : 0 < w.heap.size) (hS : 0 ∉ S) : Table w' := fun j hj => (World.cell?_of_block (k.block 0 hn hS)).trans (h j hj)

theorem IsSet.keepn {n₀ b gb n : Nat} {S : List Nat} {w w' : World} {ws : List Nat} (h : IsSet w b gb n ws) (k : Keepn n₀ S w w') (hb : b < n₀) (hg : gb < n₀) (hbS : b ∉ S) (hgS : gb ∉ S) : IsSet w' b gb n ws := by
  obtain ⟨cap, cur, h1, h2, h3⟩ := h.row
  exact ⟨⟨cap, cur, h1.keepn k hb hbS, h2.keepn k hg hgS, h3⟩, h.ne, h.len, h.pos, h.most, h.word, h.over⟩

theorem shl_ones (r : Nat) (hr : r < 64) : IntKind.u64.wrap (18446744073709551615 * 2 ^ r) = ((18446744073709551616 - 2 ^ r : Nat) : Int) := by
  have : ∀ r : Fin 64, IntKind.u64.wrap (18446744073709551615 * 2 ^ r.val) = ((18446744073709551616 - 2 ^ r.val : Nat) : Int) := by decide +kernel
  exact this ⟨r, hr⟩
theorem above_and (w r : Nat) (hw : w < 18446744073709551616) : bits .and .u64 (w : Int) ((18446744073709551616 - 2 ^ r : Nat) : Int) = (above w r : Nat) := and_u64 _ _ hw (by have := Nat.two_pow_pos r; omega)
theorem less_and (w : Nat) (hw : w < 18446744073709551616) : bits .and .u64 (w : Int) ((w - 1 : Nat) : Int) = (w &&& (w - 1) : Nat) := and_u64 _ _ hw (by omega)

set_option maxRecDepth 1000000 in
set_option maxHeartbeats 4000000 in
theorem numbers1_in (n : Nat) (hn : 1 ≤ n) (l b gb Bs Bf n₀ sz : Nat) (fr : Int) (f : Nat) (hf : max fr 0 = (f : Int)) (S : List Nat) (ws : List Nat) (J Jx : List Nat → World → Prop) (hJd : ∀ pre W k, J pre W → J pre (World.drewN W k))
    (hY : ∀ pre x W, J pre W → pre.length < sz → YieldAt Fence.wide (n - 1) Tryd.prog l #[.int .i64 (x : Nat)] W fun e W' =>
      (e = .returned (.bool true) ∧ J (pre ++ [x]) W' ∧ Keepn n₀ S W W') ∨ (e = .returned (.bool false) ∧ Jx (pre ++ [x]) W'))
    (hb : b < n₀) (hgb : gb < n₀) (hBs : Bs < n₀) (hBf : Bf < n₀) (hbS : b ∉ S) (hgS : gb ∉ S) (hsS : Bs ∉ S) (hfS : Bf ∉ S) (h0S : 0 ∉ S) (hf63 : (f : Int) ≤ 9223372036854775807)
    (W : World) (cs : Blk W Bs 24 #[.pointer (some ⟨b, 0, none⟩)]) (cf : Blk W Bf 3 #[.int .i64 fr]) (hB : IsSet W b gb sz ws) (hT : Table W) (hBs0 : Bs ≠ Bf) (hBb0 : b ≠ Bf) (hBg0 : gb ≠ Bf) (hB00 : 0 ≠ Bf) (h0 : J [] (W.setCell ⟨Bf, 0, none⟩ (.int .i64 f))) :
    CallsIn Fence.wide n Tryd.prog 52 #[.func (.yield l) #[] #[], .pointer (some ⟨Bs, 0, none⟩), .pointer (some ⟨Bf, 0, none⟩)] W fun e W' => (∃ v, e = .returned v) ∧
      ((∃ ys, ys = numsFrom ws f ∧ J ys W') ∨ (∃ pre, pre <+: numsFrom ws f ∧ Jx pre W')) := by
  refine callsIn_of_wp Tryd.func52 rfl trivial ?_ rfl
  simp only [Tryd.ntmps52, List.size_toArray, List.length_cons, List.length_nil, Nat.reduceAdd, Nat.reduceSub, Array.replicate_succ, Array.replicate_zero, List.push_toArray, List.append_toArray, List.nil_append, List.cons_append]
  have c0 := hB.size
  have hpos := hB.pos
  have hM := Lib.hid (made_yes c0 hpos)
  have csc : W.cell? ⟨Bs, 0, none⟩ = some (.pointer (some ⟨b, 0, none⟩)) := cs.cellAt 0 _ rfl
  have cfc : W.cell? ⟨Bf, 0, none⟩ = some (.int .i64 fr) := cf.cellAt 0 _ rfl
  have HCS := Lib.hid cs
  have HCF := Lib.hid cf
  have HIB := Lib.hid hB
  have HT := Lib.hid hT
  have HY := Lib.hid hY
  have HJD := Lib.hid hJd
  clear cs cf hB hT hY hJd
  have hb1 := HIB.out.keeps ((Keeps.refl [Bf] W).setCell (p := ⟨Bf, 0, none⟩) (.inl (by simp)) (.int .i64 f)) (by simpa using hBb0) (by simpa using hBg0)
  have hs1 := HCS.out.far (p := ⟨Bf, 0, none⟩) hBs0 (.int .i64 f)
  have hf1 := HCF.out.put 0 (.int .i64 f)
  have ht1 : Table (W.setCell ⟨Bf, 0, none⟩ (.int .i64 f)) := HT.out.keeps ((Keeps.refl [Bf] W).setCell (p := ⟨Bf, 0, none⟩) (.inl (by simp)) (.int .i64 f)) (by have := HCF.out.lt; omega) (by simpa using hB00)
  have ff := HCF.out.frozen 0
  have hW1 : ∃ W1, W.setCell ⟨Bf, 0, none⟩ (.int .i64 f) = W1 := ⟨_, rfl⟩
  obtain ⟨W1, hW1⟩ := hW1
  rw [hW1] at hb1 hs1 hf1 ht1 h0
  have cf1 : W1.cell? ⟨Bf, 0, none⟩ = some (.int .i64 f) := hf1.cellAt 0 _ rfl
  have HF1 := Lib.hid hf1
  have HS1 := Lib.hid hs1
  have HB1 := Lib.hid hb1
  have HT1 := Lib.hid ht1
  clear hf1 hs1 hb1 ht1
  have ed : ((f : Int)).tdiv 64 = ((f / 64 : Nat) : Int) := by rw [Int.tdiv_eq_ediv_of_nonneg (by omega)]; rfl
  have ed2 : (f : Int) / 64 = ((f / 64 : Nat) : Int) := rfl
  have hfq : f / 64 * 64 ≤ f := Nat.div_mul_le_self _ _
  obtain ⟨q, hq⟩ : ∃ q, f / 64 = q := ⟨_, rfl⟩
  rw [hq] at ed ed2 hfq
  have HQ := Lib.hid hq
  clear hq
  have ewq : IntKind.i64.wrap (q : Int) = q := IntWalk.i64_in _ (by omega)
  rcases (show (fr < 0 ∧ f = 0) ∨ fr = f by omega) with ⟨hneg, hf0⟩ | hff
  · have e0 : W.setCell ⟨Bf, 0, none⟩ (.int .i64 0) = W1 := by rw [← hW1, hf0]; rfl
    have HF0 := Lib.hid hf0
    clear hW1 hf hf0
    gi_wp2_with (refine ⟨trivial, ?_⟩; gi_at_call 39; refine (callsIn_wide.2 hM.out).mono ?_; rintro e w' ⟨rfl, rfl⟩)
    gi_loopw [4, 5] (fun i x wr => ∃ (k : Nat) (pre : List Nat), i = .int .i64 (k : Int) ∧ q ≤ k ∧ (k ≤ ws.length ∨ k = q) ∧ J pre wr ∧ Keepn n₀ S W1 wr ∧ pre ++ (if k = q then numsFrom ws f else restOf ws k) = numsFrom ws f) (fun i _ _ => ws.length - (intOf i).toNat)
    case atStart => exact ⟨q, [], rfl, Nat.le_refl _, .inr rfl, h0, Keepn.refl _ _ _, by simp⟩
    case round =>
      obtain ⟨k, pre, rfl, hqk, hkl, hJ, hkn, hpre⟩ := hrel
      have hset := HB1.out.keepn hkn hb hgb hbS hgS
      have csr : wr.cell? ⟨Bs, 0, none⟩ = some (.pointer (some ⟨b, 0, none⟩)) := (HS1.out.keepn hkn hBs hsS).cellAt 0 _ rfl
      have cfr : wr.cell? ⟨Bf, 0, none⟩ = some (.int .i64 f) := (HF1.out.keepn hkn hBf hfS).cellAt 0 _ rfl
      have HLEN := Lib.hid hset.len
      have hmost : ws.length ≤ 64 := by have := hset.len; have := hset.most; omega
      have HNL := Lib.hid (nums_len ws f (n := sz) (by have := hset.len; omega) hset.over)
      obtain ⟨cap, cur, hbb, _⟩ := hset.row
      have cb1 := hbb.cellAt 1 _ rfl
      clear hbb
      have HPRE := Lib.hid hpre
      clear hpre
      by_cases hk : k < ws.length
      · have cw := hset.cell hk
        have hw := hset.word k hk
        clear hset
        obtain ⟨x, hx⟩ : ∃ x, ws.getD k 0 = x := ⟨_, rfl⟩
        rw [hx] at cw hw
        have HX := Lib.hid hx
        clear hx
        have hk' : (k : Int) < ws.length := by omega
        have ekw : IntKind.i64.wrap ((k : Int) * 64) = (k : Int) * 64 := IntWalk.i64_in _ (by omega)
        by_cases hkq : k = q
        · subst hkq
          gi_wp2
          gi_loopw [5] (fun x wr' => ∃ (u : Nat) (pre' : List Nat), x = .int .u64 (u : Int) ∧ u < 18446744073709551616 ∧ J pre' wr' ∧ Keepn n₀ S W1 wr' ∧ pre' ++ ((bitsOf u).map (64 * k + ·) ++ restOf ws (k + 1)) = numsFrom ws f) (fun x _ => (intOf x).toNat)
          case atStart => exact ⟨above x (f % 64), pre, by rw [shl_ones _ (Nat.mod_lt _ (by decide)), above_and _ _ hw], above_lt _ _ hw, hJ, hkn, by have := HPRE.out; (first | rw [if_pos rfl] at this | rw [if_pos trivial] at this); unfold numsFrom at this ⊢; rw [HQ.out, if_pos hk, HX.out] at this ⊢; exact this⟩
          case round =>
            obtain ⟨u, pre', rfl, hu, hJ', hkn', hpre'⟩ := hrel
            by_cases hu0 : u = 0
            · subst hu0
              gi_wp2
              go_roundw
              case rel => exact ⟨k + 1, pre', by go_num, by omega, by omega, hJ', hkn', by rw [if_neg (by omega)]; rw [bitsOf_zero] at hpre'; exact hpre'⟩
              case measure => simp [intOf]; omega
            · have hst := bitsOf_step hu0 hu
              have ht64 : Lib.ctz 64 u < 64 := by obtain ⟨_, _, h⟩ := low_form hu0 hu; exact h
              rw [hst, List.map_cons] at hpre'
              have HP2 := Lib.hid hpre'
              clear hpre' hst
              have HTZ := Lib.hid (Tryd.tz_ok u hu wr (HT1.out.keepn hkn' (by omega) h0S))
              generalize Lib.ctz 64 u = t at *
              have hl2 : pre'.length < sz := by
                have h1 := HNL.out
                rw [← HP2.out] at h1
                simp at h1
                omega
              obtain ⟨fn, tmps, assign, body, hy, hR⟩ := HY.out pre' (64 * k + t) wr hJ' hl2
              have hSS := Lib.hid (hR.mono (fun e W' h => said_of (A := fun W' => J (pre' ++ [64 * k + t]) W' ∧ Keepn n₀ S wr W') (B := fun W' => Jx (pre' ++ [64 * k + t]) W') h))
              clear hR
              rw [show (((64 * k + t : Nat)) : Int) = (k : Int) * 64 + t by omega] at hy
              have eadd : IntKind.i64.wrap ((k : Int) * 64 + t) = (k : Int) * 64 + t := IntWalk.i64_in _ (by omega)
              have esub : IntKind.u64.wrap ((u : Int) - 1) = (u : Int) - 1 := by
                have := wrap_u64 (u - 1) (by omega)
                rw [show ((u - 1 : Nat) : Int) = (u : Int) - 1 by omega] at this
                exact this
              have hune : ((u : Int) == 0) = false := by simpa using hu0
              gi_wp2_with (refine ⟨trivial, ?_⟩; gi_at_call 53; refine (callsIn_wide.2 HTZ.out).mono ?_; rintro e w' ⟨rfl, rfl⟩)
              refine hSS.out.mono ?_
              rintro e W' ⟨tt, rfl, hd⟩
              cases tt
              · gi_wp2
                refine bodyPost_ret (results_none rfl _ _ _) rfl ?_
                exact ⟨⟨_, rfl⟩, .inr ⟨_, ⟨(bitsOf (u &&& (u - 1))).map (64 * k + ·) ++ restOf ws (k + 1), by rw [← HP2.out]; simp⟩, hd.2 rfl⟩⟩
              · have hd' := hd.1 rfl
                gi_wp2
                go_roundw
                case rel => exact ⟨u &&& (u - 1), pre' ++ [64 * k + t], by rw [show (u : Int) - 1 = ((u - 1 : Nat) : Int) by omega, less_and _ hu], Nat.lt_of_le_of_lt Nat.and_le_left hu, hd'.1, hkn'.trans hd'.2, by rw [← HP2.out]; simp⟩
                case measure =>
                  show (bits .and .u64 (u : Int) ((u : Int) - 1)).toNat < ((u : Int)).toNat
                  rw [show (u : Int) - 1 = ((u - 1 : Nat) : Int) by omega, less_and _ hu]
                  have := less_lt hu0
                  omega
        · have hkq' : ((k : Int) == (q : Int)) = false := by simpa using fun e => hkq (by omega)
          gi_wp2
          gi_loopw [5] (fun x wr' => ∃ (u : Nat) (pre' : List Nat), x = .int .u64 (u : Int) ∧ u < 18446744073709551616 ∧ J pre' wr' ∧ Keepn n₀ S W1 wr' ∧ pre' ++ ((bitsOf u).map (64 * k + ·) ++ restOf ws (k + 1)) = numsFrom ws f) (fun x _ => (intOf x).toNat)
          case atStart => exact ⟨x, pre, rfl, hw, hJ, hkn, by have := HPRE.out; rw [if_neg hkq, restOf_step ws k hk, HX.out] at this; exact this⟩
          case round =>
            obtain ⟨u, pre', rfl, hu, hJ', hkn', hpre'⟩ := hrel
            by_cases hu0 : u = 0
            · subst hu0
              gi_wp2
              go_roundw
              case rel => exact ⟨k + 1, pre', by go_num, by omega, by omega, hJ', hkn', by rw [if_neg (by omega)]; rw [bitsOf_zero] at hpre'; exact hpre'⟩
              case measure => simp [intOf]; omega
            · have hst := bitsOf_step hu0 hu
              have ht64 : Lib.ctz 64 u < 64 := by obtain ⟨_, _, h⟩ := low_form hu0 hu; exact h
              rw [hst, List.map_cons] at hpre'
              have HP2 := Lib.hid hpre'
              clear hpre' hst
              have HTZ := Lib.hid (Tryd.tz_ok u hu wr (HT1.out.keepn hkn' (by omega) h0S))
              generalize Lib.ctz 64 u = t at *
              have hl2 : pre'.length < sz := by
                have h1 := HNL.out
                rw [← HP2.out] at h1
                simp at h1
                omega
              obtain ⟨fn, tmps, assign, body, hy, hR⟩ := HY.out pre' (64 * k + t) wr hJ' hl2
              have hSS := Lib.hid (hR.mono (fun e W' h => said_of (A := fun W' => J (pre' ++ [64 * k + t]) W' ∧ Keepn n₀ S wr W') (B := fun W' => Jx (pre' ++ [64 * k + t]) W') h))
              clear hR
              rw [show (((64 * k + t : Nat)) : Int) = (k : Int) * 64 + t by omega] at hy
              have eadd : IntKind.i64.wrap ((k : Int) * 64 + t) = (k : Int) * 64 + t := IntWalk.i64_in _ (by omega)
              have esub : IntKind.u64.wrap ((u : Int) - 1) = (u : Int) - 1 := by
                have := wrap_u64 (u - 1) (by omega)
                rw [show ((u - 1 : Nat) : Int) = (u : Int) - 1 by omega] at this
                exact this
              have hune : ((u : Int) == 0) = false := by simpa using hu0
              gi_wp2_with (refine ⟨trivial, ?_⟩; gi_at_call 53; refine (callsIn_wide.2 HTZ.out).mono ?_; rintro e w' ⟨rfl, rfl⟩)
              refine hSS.out.mono ?_
              rintro e W' ⟨tt, rfl, hd⟩
              cases tt
              · gi_wp2
                refine bodyPost_ret (results_none rfl _ _ _) rfl ?_
                exact ⟨⟨_, rfl⟩, .inr ⟨_, ⟨(bitsOf (u &&& (u - 1))).map (64 * k + ·) ++ restOf ws (k + 1), by rw [← HP2.out]; simp⟩, hd.2 rfl⟩⟩
              · have hd' := hd.1 rfl
                gi_wp2
                go_roundw
                case rel => exact ⟨u &&& (u - 1), pre' ++ [64 * k + t], by rw [show (u : Int) - 1 = ((u - 1 : Nat) : Int) by omega, less_and _ hu], Nat.lt_of_le_of_lt Nat.and_le_left hu, hd'.1, hkn'.trans hd'.2, by rw [← HP2.out]; simp⟩
                case measure =>
                  show (bits .and .u64 (u : Int) ((u : Int) - 1)).toNat < ((u : Int)).toNat
                  rw [show (u : Int) - 1 = ((u - 1 : Nat) : Int) by omega, less_and _ hu]
                  have := less_lt hu0
                  omega
      · clear hset
        have hk' : ¬ (k : Int) < ws.length := by omega
        gi_wp2
        go_end0
        refine ⟨⟨_, rfl⟩, .inl ?_⟩
        have hE := HPRE.out
        by_cases hkq : k = q
        · subst hkq
          have e : numsFrom ws f = [] := by unfold numsFrom; rw [HQ.out, if_neg hk]
          first | rw [if_pos rfl, e, List.append_nil] at hE | rw [if_pos trivial, e, List.append_nil] at hE
          rw [e, ← hE]
          exact hJ
        · rw [if_neg hkq, restOf_end ws k (by omega), List.append_nil] at hE
          rw [← hE]
          exact hJ
  · rw [hff] at cfc
    clear hf
    gi_wp2_with (refine ⟨trivial, ?_⟩; gi_at_call 39; refine (callsIn_wide.2 hM.out).mono ?_; rintro e w' ⟨rfl, rfl⟩)
    gi_loopw [4, 5] (fun i x wr => ∃ (k : Nat) (pre : List Nat), i = .int .i64 (k : Int) ∧ q ≤ k ∧ (k ≤ ws.length ∨ k = q) ∧ J pre wr ∧ Keepn n₀ S W1 wr ∧ pre ++ (if k = q then numsFrom ws f else restOf ws k) = numsFrom ws f) (fun i _ _ => ws.length - (intOf i).toNat)
    case atStart => exact ⟨q, [], rfl, Nat.le_refl _, .inr rfl, h0, Keepn.refl _ _ _, by simp⟩
    case round =>
      obtain ⟨k, pre, rfl, hqk, hkl, hJ, hkn, hpre⟩ := hrel
      have hset := HB1.out.keepn hkn hb hgb hbS hgS
      have csr : wr.cell? ⟨Bs, 0, none⟩ = some (.pointer (some ⟨b, 0, none⟩)) := (HS1.out.keepn hkn hBs hsS).cellAt 0 _ rfl
      have cfr : wr.cell? ⟨Bf, 0, none⟩ = some (.int .i64 f) := (HF1.out.keepn hkn hBf hfS).cellAt 0 _ rfl
      have HLEN := Lib.hid hset.len
      have hmost : ws.length ≤ 64 := by have := hset.len; have := hset.most; omega
      have HNL := Lib.hid (nums_len ws f (n := sz) (by have := hset.len; omega) hset.over)
      obtain ⟨cap, cur, hbb, _⟩ := hset.row
      have cb1 := hbb.cellAt 1 _ rfl
      clear hbb
      have HPRE := Lib.hid hpre
      clear hpre
      by_cases hk : k < ws.length
      · have cw := hset.cell hk
        have hw := hset.word k hk
        clear hset
        obtain ⟨x, hx⟩ : ∃ x, ws.getD k 0 = x := ⟨_, rfl⟩
        rw [hx] at cw hw
        have HX := Lib.hid hx
        clear hx
        have hk' : (k : Int) < ws.length := by omega
        have ekw : IntKind.i64.wrap ((k : Int) * 64) = (k : Int) * 64 := IntWalk.i64_in _ (by omega)
        by_cases hkq : k = q
        · subst hkq
          gi_wp2
          gi_loopw [5] (fun x wr' => ∃ (u : Nat) (pre' : List Nat), x = .int .u64 (u : Int) ∧ u < 18446744073709551616 ∧ J pre' wr' ∧ Keepn n₀ S W1 wr' ∧ pre' ++ ((bitsOf u).map (64 * k + ·) ++ restOf ws (k + 1)) = numsFrom ws f) (fun x _ => (intOf x).toNat)
          case atStart => exact ⟨above x (f % 64), pre, by rw [shl_ones _ (Nat.mod_lt _ (by decide)), above_and _ _ hw], above_lt _ _ hw, hJ, hkn, by have := HPRE.out; (first | rw [if_pos rfl] at this | rw [if_pos trivial] at this); unfold numsFrom at this ⊢; rw [HQ.out, if_pos hk, HX.out] at this ⊢; exact this⟩
          case round =>
            obtain ⟨u, pre', rfl, hu, hJ', hkn', hpre'⟩ := hrel
            by_cases hu0 : u = 0
            · subst hu0
              gi_wp2
              go_roundw
              case rel => exact ⟨k + 1, pre', by go_num, by omega, by omega, hJ', hkn', by rw [if_neg (by omega)]; rw [bitsOf_zero] at hpre'; exact hpre'⟩
              case measure => simp [intOf]; omega
            · have hst := bitsOf_step hu0 hu
              have ht64 : Lib.ctz 64 u < 64 := by obtain ⟨_, _, h⟩ := low_form hu0 hu; exact h
              rw [hst, List.map_cons] at hpre'
              have HP2 := Lib.hid hpre'
              clear hpre' hst
              have HTZ := Lib.hid (Tryd.tz_ok u hu wr (HT1.out.keepn hkn' (by omega) h0S))
              generalize Lib.ctz 64 u = t at *
              have hl2 : pre'.length < sz := by
                have h1 := HNL.out
                rw [← HP2.out] at h1
                simp at h1
                omega
              obtain ⟨fn, tmps, assign, body, hy, hR⟩ := HY.out pre' (64 * k + t) wr hJ' hl2
              have hSS := Lib.hid (hR.mono (fun e W' h => said_of (A := fun W' => J (pre' ++ [64 * k + t]) W' ∧ Keepn n₀ S wr W') (B := fun W' => Jx (pre' ++ [64 * k + t]) W') h))
              clear hR
              rw [show (((64 * k + t : Nat)) : Int) = (k : Int) * 64 + t by omega] at hy
              have eadd : IntKind.i64.wrap ((k : Int) * 64 + t) = (k : Int) * 64 + t := IntWalk.i64_in _ (by omega)
              have esub : IntKind.u64.wrap ((u : Int) - 1) = (u : Int) - 1 := by
                have := wrap_u64 (u - 1) (by omega)
                rw [show ((u - 1 : Nat) : Int) = (u : Int) - 1 by omega] at this
                exact this
              have hune : ((u : Int) == 0) = false := by simpa using hu0
              gi_wp2_with (refine ⟨trivial, ?_⟩; gi_at_call 53; refine (callsIn_wide.2 HTZ.out).mono ?_; rintro e w' ⟨rfl, rfl⟩)
              refine hSS.out.mono ?_
              rintro e W' ⟨tt, rfl, hd⟩
              cases tt
              · gi_wp2
                refine bodyPost_ret (results_none rfl _ _ _) rfl ?_
                exact ⟨⟨_, rfl⟩, .inr ⟨_, ⟨(bitsOf (u &&& (u - 1))).map (64 * k + ·) ++ restOf ws (k + 1), by rw [← HP2.out]; simp⟩, hd.2 rfl⟩⟩
              · have hd' := hd.1 rfl
                gi_wp2
                go_roundw
                case rel => exact ⟨u &&& (u - 1), pre' ++ [64 * k + t], by rw [show (u : Int) - 1 = ((u - 1 : Nat) : Int) by omega, less_and _ hu], Nat.lt_of_le_of_lt Nat.and_le_left hu, hd'.1, hkn'.trans hd'.2, by rw [← HP2.out]; simp⟩
                case measure =>
                  show (bits .and .u64 (u : Int) ((u : Int) - 1)).toNat < ((u : Int)).toNat
                  rw [show (u : Int) - 1 = ((u - 1 : Nat) : Int) by omega, less_and _ hu]
                  have := less_lt hu0
                  omega
        · have hkq' : ((k : Int) == (q : Int)) = false := by simpa using fun e => hkq (by omega)
          gi_wp2
          gi_loopw [5] (fun x wr' => ∃ (u : Nat) (pre' : List Nat), x = .int .u64 (u : Int) ∧ u < 18446744073709551616 ∧ J pre' wr' ∧ Keepn n₀ S W1 wr' ∧ pre' ++ ((bitsOf u).map (64 * k + ·) ++ restOf ws (k + 1)) = numsFrom ws f) (fun x _ => (intOf x).toNat)
          case atStart => exact ⟨x, pre, rfl, hw, hJ, hkn, by have := HPRE.out; rw [if_neg hkq, restOf_step ws k hk, HX.out] at this; exact this⟩
          case round =>
            obtain ⟨u, pre', rfl, hu, hJ', hkn', hpre'⟩ := hrel
            by_cases hu0 : u = 0
            · subst hu0
              gi_wp2
              go_roundw
              case rel => exact ⟨k + 1, pre', by go_num, by omega, by omega, hJ', hkn', by rw [if_neg (by omega)]; rw [bitsOf_zero] at hpre'; exact hpre'⟩
              case measure => simp [intOf]; omega
            · have hst := bitsOf_step hu0 hu
              have ht64 : Lib.ctz 64 u < 64 := by obtain ⟨_, _, h⟩ := low_form hu0 hu; exact h
              rw [hst, List.map_cons] at hpre'
              have HP2 := Lib.hid hpre'
              clear hpre' hst
              have HTZ := Lib.hid (Tryd.tz_ok u hu wr (HT1.out.keepn hkn' (by omega) h0S))
              generalize Lib.ctz 64 u = t at *
              have hl2 : pre'.length < sz := by
                have h1 := HNL.out
                rw [← HP2.out] at h1
                simp at h1
                omega
              obtain ⟨fn, tmps, assign, body, hy, hR⟩ := HY.out pre' (64 * k + t) wr hJ' hl2
              have hSS := Lib.hid (hR.mono (fun e W' h => said_of (A := fun W' => J (pre' ++ [64 * k + t]) W' ∧ Keepn n₀ S wr W') (B := fun W' => Jx (pre' ++ [64 * k + t]) W') h))
              clear hR
              rw [show (((64 * k + t : Nat)) : Int) = (k : Int) * 64 + t by omega] at hy
              have eadd : IntKind.i64.wrap ((k : Int) * 64 + t) = (k : Int) * 64 + t := IntWalk.i64_in _ (by omega)
              have esub : IntKind.u64.wrap ((u : Int) - 1) = (u : Int) - 1 := by
                have := wrap_u64 (u - 1) (by omega)
                rw [show ((u - 1 : Nat) : Int) = (u : Int) - 1 by omega] at this
                exact this
              have hune : ((u : Int) == 0) = false := by simpa using hu0
              gi_wp2_with (refine ⟨trivial, ?_⟩; gi_at_call 53; refine (callsIn_wide.2 HTZ.out).mono ?_; rintro e w' ⟨rfl, rfl⟩)
              refine hSS.out.mono ?_
              rintro e W' ⟨tt, rfl, hd⟩
              cases tt
              · gi_wp2
                refine bodyPost_ret (results_none rfl _ _ _) rfl ?_
                exact ⟨⟨_, rfl⟩, .inr ⟨_, ⟨(bitsOf (u &&& (u - 1))).map (64 * k + ·) ++ restOf ws (k + 1), by rw [← HP2.out]; simp⟩, hd.2 rfl⟩⟩
              · have hd' := hd.1 rfl
                gi_wp2
                go_roundw
                case rel => exact ⟨u &&& (u - 1), pre' ++ [64 * k + t], by rw [show (u : Int) - 1 = ((u - 1 : Nat) : Int) by omega, less_and _ hu], Nat.lt_of_le_of_lt Nat.and_le_left hu, hd'.1, hkn'.trans hd'.2, by rw [← HP2.out]; simp⟩
                case measure =>
                  show (bits .and .u64 (u : Int) ((u : Int) - 1)).toNat < ((u : Int)).toNat
                  rw [show (u : Int) - 1 = ((u - 1 : Nat) : Int) by omega, less_and _ hu]
                  have := less_lt hu0
                  omega
      · clear hset
        have hk' : ¬ (k : Int) < ws.length := by omega
        gi_wp2
        go_end0
        refine ⟨⟨_, rfl⟩, .inl ?_⟩
        have hE := HPRE.out
        by_cases hkq : k = q
        · subst hkq
          have e : numsFrom ws f = [] := by unfold numsFrom; rw [HQ.out, if_neg hk]
          first | rw [if_pos rfl, e, List.append_nil] at hE | rw [if_pos trivial, e, List.append_nil] at hE
          rw [e, ← hE]
          exact hJ
        · rw [if_neg hkq, restOf_end ws k (by omega), List.append_nil] at hE
          rw [← hE]
          exact hJ
end Go.Proofs.YtcdnflffpeijfaaDoor
