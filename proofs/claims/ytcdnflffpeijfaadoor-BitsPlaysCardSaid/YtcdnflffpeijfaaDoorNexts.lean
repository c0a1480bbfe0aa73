/- BitsNext: for every input the call returns true, and nothing that was there has changed. Condition: the table of trailing zeros lies in its block. -/
import Derived.Test.YtcdnflffpeijfaaDoorWorks
namespace Go.Proofs.YtcdnflffpeijfaaDoor
open Go.RowKit

/-- What is left of a list, one by one. -/
theorem from_step {n : Nat} {p : Nat → Bool} (A : Int) : picks n (fromP A p) = [] ∨ ∃ x t, picks n (fromP A p) = x :: t ∧ A ≤ x ∧ x < n ∧ t = picks n (fromP ((x : Int) + 1) p) := by
  have e : picks n (fromP A p) = picks n (fun i => decide (A.toNat ≤ i) && p i) := by
    apply picks_congr
    intro i _
    unfold fromP
    congr 1
    exact decide_eq_decide.2 (by omega)
  rw [e]
  rcases picks_cons_from (n := n) (p := p) A.toNat with h | ⟨x, t, h1, h2, h3, h4, h5⟩
  · exact .inl h
  · refine .inr ⟨x, t, h1, by omega, h3, h5.trans ?_⟩
    apply picks_congr
    intro i _
    unfold fromP
    congr 1
    exact decide_eq_decide.2 (by omega)
theorem from_all {n : Nat} {p : Nat → Bool} (A : Int) : picks n (fromP A p) = (picks n p).filter fun i : Nat => decide (A ≤ (i : Int)) := by
  unfold picks fromP
  rw [List.filter_filter]
theorem take_filter {L : List Nat} {k : Nat} (h : k < L.length) (f : Nat → Bool) : (L.take (k + 1)).filter f = if f (L.getD k 0) then (L.take k).filter f ++ [L.getD k 0] else (L.take k).filter f := by
  rw [List.take_succ_eq_append_getElem h, List.filter_append]
  simp only [List.getD, List.getElem?_eq_getElem h, Option.getD_some]
  cases hf : f L[k] <;> simp [hf]
theorem asInts_at {L : List Nat} {k : Nat} (_ : k < L.length) : (asInts L).getD k 0 = ((L.getD k 0 : Nat) : Int) := by
  unfold asInts
  rw [List.getD_eq_getElem?_getD, List.getElem?_map, List.getD_eq_getElem?_getD]
  cases L[k]? <;> rfl
theorem asInts_append (L M : List Nat) : asInts (L ++ M) = asInts L ++ asInts M := by simp [asInts]

set_option maxRecDepth 1000000 in
set_option maxHeartbeats 8000000 in
theorem nexts_walk (s : Nat) (hs : s ≤ 65535) {v : Value} {zs : List Int} (fr : Int) (hlo : -9223372036854775808 ≤ fr) (hhi : fr ≤ 9223372036854775807) {w : World} (hv : ArgI .u16 w v zs) (hT : Table w) :
    Calls Tryd.prog 3 #[.int .u16 s, v, .int .i64 fr] w fun e w' => e = .returned (.bool true) ∧ Below w.heap.size w w' := by
  have hpos := hT.pos
  obtain ⟨n, hn⟩ : ∃ n, 1 + s % 4096 = n := ⟨_, rfl⟩
  have h1 : 1 ≤ n := by omega
  have h2 : n ≤ 4096 := by omega
  have E1 := Lib.hid (show (1 : Int) + (s : Int) % 4096 = (n : Int) by omega)
  have HM := Lib.hid (made_in h1 h2 hv)
  have HT := Lib.hid hT
  clear hT hv hn
  go_enter Tryd.func3, Tryd.ntmps3
  go_wp2_with fail
  rw [E1.out]
  refine HM.out.mono ?_
  rintro e w1 ⟨b, gb, gh, p, rfl, hs, hr, hK, hb, hgb, hgh⟩
  have HT1 := Lib.hid (HT.out.keeps hK hpos (by simp))
  have hpos1 : 0 < w1.heap.size := Nat.lt_of_lt_of_le hpos hK.size
  have HS := Lib.hid hs
  have HR := Lib.hid hr
  clear hs hr E1
  go_wp2_with fail
  go_loopw [11, 12, 34] (fun a v i wr => ∃ (A : Int) (G : List Nat), i = .int .i64 (G.length : Nat) ∧ a = .int .i64 A ∧ -9223372036854775808 ≤ A ∧ A ≤ 9223372036854775807 ∧ OwnI wr w1.heap.size v (asInts G) ∧ Hid (G ++ picks n (fromP A p) = picks n (fromP fr p)) ∧ Keeps [] w1 wr) (fun _ _ i _ => n + 1 - (intOf i).toNat)
  case atStart => exact ⟨fr, [], rfl, rfl, hlo, hhi, OwnI.nil _ _, Lib.hid rfl, Keeps.refl _ _⟩
  case round =>
    obtain ⟨A, G, rfl, rfl, hA1, hA2, hv, HG, hKr⟩ := hrel
    have hlen : G.length ≤ n := by
      have h3 := congrArg List.length HG.out
      have h4 := picks_len_le n (fromP fr p)
      rw [List.length_append] at h3
      omega
    have hlenI : ((G.length : Nat) : Int) < (n : Int) + 1 := by omega
    have hsr := HS.out.keep0 hKr
    have hTr := HT1.out.keeps hKr hpos1 (by simp)
    obtain ⟨a0, c0, rfl⟩ := hv.shape
    rcases from_step (n := n) (p := p) A with hnil | ⟨x, t, hx1, hx2, hx3, hx4⟩
    · have HN := Lib.hid (Next_e hsr hTr A hA2 0 false (by rw [hnil]; rfl))
      have HF := Lib.hid (show picks n (fromP fr p) = G by rw [← HG.out, hnil, List.append_nil])
      clear hnil HG hsr hTr
      go_wp2_with fail
      refine HN.out.mono ?_
      rintro e w2 ⟨rfl, k2⟩
      have hv2 := hv.keeps k2 (by simp)
      have K2 := hKr.trans k2
      clear hv hKr k2
      go_wp2_with fail
      refine (listed_in (HR.out.keeps K2 (by simp)) h2).mono ?_
      rintro e w3 ⟨u, rfl, hu, k3⟩
      have K3 := K2.trans k3
      have hv3 := hv2.keeps k3 (by simp)
      have z2 := K2.size
      have z3 := k3.size
      clear hv2 K2 k3
      obtain ⟨L, hL⟩ : ∃ L, picks n p = L := ⟨_, rfl⟩
      have hLn : L.length ≤ n := by rw [← hL]; exact picks_len_le n p
      rw [hL] at hu
      have HL := Lib.hid hL
      clear hL
      obtain ⟨a1, c1, rfl⟩ := hu.shape
      rw [asInts_len] at hu ⊢
      have HU := Lib.hid hu
      have HSL := Lib.hid (hu.sl (by rw [asInts_len]; unfold maxLen; omega))
      clear hu
      go_wp2_with fail
      go_loopw [15, 64] (fun x i wr => ∃ k : Nat, i = .int .i64 k ∧ k ≤ L.length ∧ OwnI wr w3.heap.size x (asInts ((L.take k).filter fun i : Nat => decide (fr ≤ (i : Int)))) ∧ Keeps [] w3 wr) (fun _ i _ => L.length - (intOf i).toNat)
      case atStart => exact ⟨0, rfl, Nat.zero_le _, OwnI.nil _ _, Keeps.refl _ _⟩
      case round =>
        obtain ⟨k, rfl, hk, hx, hKr⟩ := hrel
        obtain ⟨a2, c2, rfl⟩ := hx.shape
        have zr := hKr.size
        have hfl : ((L.take k).filter fun i : Nat => decide (fr ≤ (i : Int))).length ≤ k := Nat.le_trans (List.length_filter_le _ _) (by rw [List.length_take]; omega)
        by_cases hkl : k < L.length
        · have hTF := Lib.hid (take_filter hkl fun i : Nat => decide (fr ≤ (i : Int)))
          rcases HSL.out with ⟨h0, _⟩ | ⟨g, off, cap, he, hm, hg, h0, hc⟩
          · have := congrArg List.length h0
            rw [asInts_len] at this
            simp at this
            subst this
            simp at hkl
          · injection he with he1 he2 he3
            subst he1
            have c := (hKr.cell (p := ⟨g, off + k, none⟩) hg (by simp)).trans (hc k (by rw [asInts_len]; exact hkl))
            rw [asInts_at hkl] at c
            clear hc he2 he3 hm h0
            generalize L.getD k 0 = y at *
            have hTF' := hTF.out
            clear hTF
            by_cases hfy : fr ≤ (y : Int)
            · rw [decide_eq_true hfy, if_pos rfl] at hTF'
              have HF' := Lib.hid hTF'
              clear hTF'
              go_wp2_with (at_builtin; refine wpList_append_sl rfl (.tmp 71) (.tmp 73) 28 rfl w3.heap.size Tryd.underlying28 Tryd.info3 rfl rfl (hx.alloc _) (SlI.lit (xs := [(y : Int)]) (Blk.new wr 3 #[.int .i64 y]) rfl (by unfold maxLen; simp)) (by rw [asInts_len]; simp; omega) (by simp; omega) ?_; intro v' w5 hown' hgrow hat)
              have hk5 : Keeps [] w3 w5 := (hKr.alloc _).grown hgrow (fun y hy => .inr (hx.lt y hy).1)
              go_roundw
              case rel => exact ⟨k + 1, by go_num, by omega, by rw [HF'.out, asInts_append]; exact hown', hk5⟩
              case measure => simp [intOf]; omega
            · rw [decide_eq_false hfy, if_neg (by simp)] at hTF'
              have HF' := Lib.hid hTF'
              clear hTF'
              go_wp2_with fail
              go_roundw
              case rel => exact ⟨k + 1, by go_num, by omega, by rw [HF'.out]; exact hx, hKr⟩
              case measure => simp [intOf]; omega
        · obtain rfl : k = L.length := by omega
          have hsame : asInts G = asInts ((L.take L.length).filter fun i : Nat => decide (fr ≤ (i : Int))) := by
            rw [List.take_length, ← HL.out, ← from_all, HF.out]
          have hlM : (asInts ((L.take L.length).filter fun i : Nat => decide (fr ≤ (i : Int)))).length ≤ maxLen := by rw [asInts_len]; unfold maxLen; omega
          have hlG : (asInts G).length ≤ maxLen := by rw [asInts_len]; unfold maxLen; omega
          generalize asInts ((L.take L.length).filter fun i : Nat => decide (fr ≤ (i : Int))) = M at *
          have HSAME := Lib.hid hsame
          have hsv := Lib.hid ((hv3.keeps hKr (by simp)).sl hlG)
          have hsx := Lib.hid (hx.sl hlM)
          clear hsame hfl hlM hlG hx hv3 zr HF HL HSL HU
          generalize asInts G = MG at *
          go_wp2_with fail
          refine (Equal_e hsv.out hsx.out HSAME.out).mono ?_
          rintro e w6 ⟨rfl, j, rfl⟩
          have K6 := ((hK.trans K3).trans hKr).drewN j
          go_wp2_with fail
          refine (works_ok (HT.out.keeps K6 hpos (by simp))).mono ?_
          rintro e w7 ⟨rfl, k7⟩
          go_wp2_with fail
          go_ret
          exact ⟨rfl, (K6.trans k7).below⟩
    · have HN := Lib.hid (Next_e hsr hTr A hA2 x true (by rw [hx1]; rfl))
      have HF := Lib.hid (show (G ++ [x]) ++ picks n (fromP ((x : Int) + 1) p) = picks n (fromP fr p) by rw [← HG.out, hx1, ← hx4]; simp)
      clear hx1 hx4 HG hsr hTr
      have hxn : ¬ (n : Int) ≤ x := by omega
      go_wp2_with fail
      refine HN.out.mono ?_
      rintro e w2 ⟨rfl, k2⟩
      have hv2 := hv.keeps k2 (by simp)
      have K2 := hKr.trans k2
      have z2 := K2.size
      clear hv hKr k2
      go_wp2_with (at_builtin; refine wpList_append_sl rfl (.tmp 54) (.tmp 56) 28 rfl w1.heap.size Tryd.underlying28 Tryd.info3 rfl rfl (hv2.alloc _) (SlI.lit (xs := [(x : Int)]) (Blk.new w2 3 #[.int .i64 x]) rfl (by unfold maxLen; simp)) (by rw [asInts_len]; simp; omega) (by simp; omega) ?_; intro v' w3 hown' hgrow hat)
      have hk3 : Keeps [] w1 w3 := (K2.alloc _).grown hgrow (fun y hy => .inr (hv2.lt y hy).1)
      go_roundw
      case rel => exact ⟨(x : Int) + 1, G ++ [x], by rw [List.length_append]; go_num, rfl, by omega, by omega, by rw [asInts_append]; exact hown', HF, hk3⟩
      case measure => simp [intOf]; omega
end Go.Proofs.YtcdnflffpeijfaaDoor
