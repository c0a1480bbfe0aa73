/- The contracts of the reference's all, Union, Minus. Condition: sets that New or Copy made, or nil. -/
import Derived.Test.YtcdnflffpeijfaaDoorRef2
namespace Go.Proofs.YtcdnflffpeijfaaDoor
open Go.RowKit

def putAll (p : Nat → Bool) (L : List Nat) (t : Bool) : Nat → Bool := L.foldl (fun p i => putP p i t) p
theorem putAll_at (t : Bool) : ∀ (L : List Nat) (p : Nat → Bool) (j : Nat), putAll p L t j = if j ∈ L then t else p j
  | [], p, j => by simp [putAll]
  | x :: L, p, j => by
    have := putAll_at t L (putP p x t) j
    unfold putAll at this ⊢
    rw [List.foldl_cons, this]
    by_cases h : j ∈ L
    · rw [if_pos h, if_pos (List.mem_cons_of_mem _ h)]
    · rw [if_neg h]
      unfold putP
      by_cases e : j = x
      · subst e; simp
      · rw [if_neg e, if_neg (by simp [e, h])]
theorem putAll_succ (p : Nat → Bool) (L : List Nat) (t : Bool) {k : Nat} (hk : k < L.length) : putAll p (L.take (k + 1)) t = putP (putAll p (L.take k) t) (L.getD k 0) t := by
  unfold putAll
  have : L.take (k + 1) = L.take k ++ [L.getD k 0] := by
    rw [List.take_succ_eq_append_getElem hk]
    simp [List.getElem?_eq_getElem hk]
  rw [this, List.foldl_append]
  rfl
theorem mem_picks {n : Nat} {q : Nat → Bool} {j : Nat} : j ∈ picks n q ↔ j < n ∧ q j = true := by
  unfold picks
  rw [List.mem_filter, List.mem_range]
theorem putAll_or (n : Nat) (p q : Nat → Bool) (j : Nat) (hj : j < n) : putAll p (picks n q) true j = orP p q j := by
  rw [putAll_at]
  unfold orP
  by_cases h : q j = true
  · rw [if_pos (mem_picks.2 ⟨hj, h⟩), h]; simp
  · rw [if_neg (fun h1 => h (mem_picks.1 h1).2)]
    simp at h
    simp [h]
theorem putAll_minus (n : Nat) (p q : Nat → Bool) (j : Nat) (hj : j < n) : putAll p (picks n q) false j = minusP p q j := by
  rw [putAll_at]
  unfold minusP
  by_cases h : q j = true
  · rw [if_pos (mem_picks.2 ⟨hj, h⟩), h]; simp
  · rw [if_neg (fun h1 => h (mem_picks.1 h1).2)]
    simp at h
    simp [h]
theorem RSet.cong {w : World} {c gc n : Nat} {p q : Nat → Bool} (h : RSet w c gc n p) (e : ∀ i, i < n → p i = q i) : RSet w c gc n q := by
  obtain ⟨cap, h1, h2⟩ := h.row
  exact ⟨⟨cap, h1, h2.cong e⟩, h.pos, h.most⟩
section
variable {w : World} {c gc n d gd m : Nat} {p q : Nat → Bool}
set_option maxRecDepth 100000 in
theorem Rall_nil (x : Option Addr) (t : Bool) (w : World) : Calls Tryd.prog 46 #[.pointer none, .pointer x, .bool t] w fun e w' => e = .returned (.int .i64 1) ∧ w = w' := by
  have HV := Lib.hid (rvalid_nil w)
  go_enter Tryd.func46, Tryd.ntmps46
  go_wp2_with fail
  refine HV.out.mono ?_
  rintro e w' ⟨rfl, rfl⟩
  go_wp2_with fail
  go_ret
  exact ⟨rfl, rfl⟩
set_option maxRecDepth 100000 in
theorem Rall_nil2 (h : RSet w c gc n p) (t : Bool) : Calls Tryd.prog 46 #[.pointer (some ⟨c, 0, none⟩), .pointer none, .bool t] w fun e w' => e = .returned (.int .i64 1) ∧ w = w' := by
  obtain ⟨cap, h1, h2⟩ := h.row
  have HV := Lib.hid (rvalid_yes h1 h.pos)
  have HN := Lib.hid (rvalid_nil w)
  clear h h1 h2
  go_enter Tryd.func46, Tryd.ntmps46
  go_wp2_with fail
  refine HV.out.mono ?_
  rintro e w' ⟨rfl, rfl⟩
  go_wp2_with fail
  refine HN.out.mono ?_
  rintro e w' ⟨rfl, rfl⟩
  go_wp2_with fail
  go_ret
  exact ⟨rfl, rfl⟩
set_option maxRecDepth 100000 in
theorem Rall_other (h : RSet w c gc n p) (h' : RSet w d gd m q) (t : Bool) (hne : n ≠ m) : Calls Tryd.prog 46 #[.pointer (some ⟨c, 0, none⟩), .pointer (some ⟨d, 0, none⟩), .bool t] w fun e w' => e = .returned (.int .i64 2) ∧ Keeps [] w w' := by
  obtain ⟨cap, h1, h2⟩ := h.row
  obtain ⟨cap', h1', h2'⟩ := h'.row
  have HV := Lib.hid (rvalid_yes h1 h.pos)
  have HV' := Lib.hid (rvalid_yes h1' h'.pos)
  have c1 := h1.cellAt 0 _ rfl
  have c2 := h1'.cellAt 0 _ rfl
  have e1 : ((n : Int) != (m : Int)) = true := by simp; omega
  clear h h' h1 h2 h1' h2' hne
  go_enter Tryd.func46, Tryd.ntmps46
  go_wp2_with fail
  refine HV.out.mono ?_
  rintro e w' ⟨rfl, rfl⟩
  go_wp2_with fail
  refine HV'.out.mono ?_
  rintro e w' ⟨rfl, rfl⟩
  go_wp2_with fail
  go_quiet (fail)
  go_wp2_with fail
  go_ret
  exact ⟨rfl, (Keeps.refl [] w).drewN _⟩
set_option maxRecDepth 1000000 in
set_option maxHeartbeats 2000000 in
theorem Rall_ok (h : RSet w c gc n p) (h' : RSet w d gd n q) (t : Bool) (hne : d ≠ gc) (hng : gd ≠ gc) : Calls Tryd.prog 46 #[.pointer (some ⟨c, 0, none⟩), .pointer (some ⟨d, 0, none⟩), .bool t] w fun e w' => e = .returned (.int .i64 0) ∧ RSet w' c gc n (putAll p (picks n q) t) ∧ Keeps [gc] w w' := by
  obtain ⟨cap, h1, h2⟩ := h.row
  obtain ⟨cap', h1', h2'⟩ := h'.row
  have HV := Lib.hid (rvalid_yes h1 h.pos)
  have HV' := Lib.hid (rvalid_yes h1' h'.pos)
  have HA := Lib.hid (fun W (k : Keeps [] w W) => RAll_ok (h'.keep0 k))
  have c1 := h1.cellAt 0 _ rfl
  have c2 := h1'.cellAt 0 _ rfl
  have e1 : ((n : Int) != (n : Int)) = false := by simp
  have H := Lib.hid h
  have hn := h.most
  have hgc := h.ne
  have lgc := h.lt
  clear h h' h1 h2 h1' h2'
  go_enter Tryd.func46, Tryd.ntmps46
  go_wp2_with fail
  refine HV.out.mono ?_
  rintro e w' ⟨rfl, rfl⟩
  go_wp2_with fail
  refine HV'.out.mono ?_
  rintro e w' ⟨rfl, rfl⟩
  go_wp2_with fail
  go_quiet (fail)
  have kd : Keeps [] w (w.drewN nq) := (Keeps.refl [] w).drewN _
  generalize w.drewN nq = w1 at *
  clear c1 c2 e1
  go_wp2_with fail
  refine (HA.out _ kd).mono ?_
  rintro e w2 ⟨v, rfl, hv, k2⟩
  have K2 := kd.trans k2
  have hL := picks_len_le n q
  have HSL := Lib.hid (hv.sl (by rw [asInts_len]; unfold maxLen; omega))
  have hmem := Lib.hid (fun k (hk : k < (picks n q).length) => show (picks n q).getD k 0 < n from (mem_picks.1 (by rw [List.getD_eq_getElem?_getD, List.getElem?_eq_getElem hk]; exact List.getElem_mem hk)).1)
  have fv := hv.from_
  obtain ⟨a, cc, rfl⟩ := hv.shape
  rw [asInts_len] at *
  have H2 := Lib.hid (H.out.keep0 K2)
  generalize hLe : picks n q = L at *
  have HLe := Lib.hid hLe
  clear hLe
  have z1 := kd.size
  clear hv kd k2
  go_wp2_with fail
  go_loopw [8] (fun i wr => ∃ k : Nat, i = .int .i64 k ∧ k ≤ L.length ∧ RSet wr c gc n (putAll p (L.take k) t) ∧ Keeps [gc] w2 wr) (fun i _ => L.length - (intOf i).toNat)
  case atStart => exact ⟨0, rfl, Nat.zero_le _, H2.out, Keeps.refl _ _⟩
  case round =>
    obtain ⟨k, rfl, hkl, hs, hK⟩ := hrel
    by_cases hkn : k < L.length
    · have hkI : (k : Int) < L.length := by omega
      rcases HSL.out with ⟨h0, _⟩ | ⟨g, off, cp, he, hm, hg, h0, hc⟩
      · have := congrArg List.length h0
        rw [asInts_len] at this
        simp at this
        subst this
        simp at hkn
      · injection he with he1 he2 he3
        subst he1
        have hgne : g ≠ gc := by have := fv g rfl; omega
        have cl := (hK.cell (p := ⟨g, off + k, none⟩) hg (by simpa using hgne)).trans (hc k (by rw [asInts_len]; exact hkn))
        rw [asInts_at hkn] at cl
        have hy := hmem.out k hkn
        have hps := putAll_succ p L t hkn
        have HPS := Lib.hid hps
        clear hc he2 he3 hm h0 hps
        obtain ⟨y, hyy⟩ : ∃ y, L.getD k 0 = y := ⟨_, rfl⟩
        rw [hyy] at cl hy HPS
        clear hyy
        obtain ⟨cap3, r1, r2⟩ := hs.row
        have d1 := r1.cellAt 0 _ rfl
        have d2 := r2.cellAt hy
        have f2 := r2.frozen y
        have hyI : (y : Int) < n := by omega
        have hput := r2.put (b := t) (q := putP (putAll p (L.take k) t) y t) (fun j _ => rfl) hy
        have hs2 : RSet (wr.setCell ⟨gc, y, none⟩ (.bool t)) c gc n (putAll p (L.take (k + 1)) t) := by
          rw [HPS.out]
          exact ⟨⟨cap3, r1.far (fun e => hgc e.symm) _, hput⟩, hs.pos, hs.most⟩
        have hK2 := hK.setCell (p := ⟨gc, y, none⟩) (.inl (by simp)) (.bool t)
        have HS2 := Lib.hid (hs2.keep0 (Keeps.refl [] _).drew)
        have HK2 := Lib.hid hK2.drew
        clear hs r1 r2 hput hs2 hK2
        go_wp2_with fail
        go_region
        go_wp2_with fail
        go_roundw
        case rel => exact ⟨k + 1, by go_num, by omega, HS2.out, HK2.out⟩
        case measure => simp [intOf]; omega
    · obtain rfl : k = L.length := by omega
      have hkI : ¬ (L.length : Int) < L.length := by omega
      have HSF := Lib.hid hs
      rw [List.take_length] at HSF
      clear hs
      go_wp2_with fail
      go_ret
      rw [HLe.out]
      exact ⟨rfl, HSF.out, (K2.mono (by simp)).trans hK⟩
end
end Go.Proofs.YtcdnflffpeijfaaDoor
