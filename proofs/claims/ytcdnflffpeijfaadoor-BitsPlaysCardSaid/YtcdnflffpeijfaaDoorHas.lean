/- The contracts of Has and New. Condition: a set that New or Copy made. -/
import Derived.Test.YtcdnflffpeijfaaDoorChange
namespace Go.Proofs.YtcdnflffpeijfaaDoor
open Go.RowKit

theorem bit_one (x r : Nat) (hx : x < 18446744073709551616) : (bits .and .u64 ((x / 2 ^ r : Nat) : Int) 1 == 1) = x.testBit r := by
  have h : x / 2 ^ r < 18446744073709551616 := Nat.lt_of_le_of_lt (Nat.div_le_self _ _) hx
  have e : bits .and .u64 ((x / 2 ^ r : Nat) : Int) 1 = ((x / 2 ^ r &&& 1 : Nat) : Int) := u64_and_nat _ 1 h (by decide)
  rw [e, Nat.and_one_is_mod, Nat.testBit_eq_decide_div_mod_eq]
  by_cases hm : x / 2 ^ r % 2 = 1
  · rw [hm, decide_eq_true rfl]; rfl
  · rw [decide_eq_false hm]
    have : x / 2 ^ r % 2 = 0 := by omega
    rw [this]; rfl

set_option maxRecDepth 1000000 in
theorem Has_in {b gb n i : Nat} {w : World} {ws : List Nat} (h : IsSet w b gb n ws) (hi : i < n) :
    Calls Tryd.prog 18 #[.pointer (some ⟨b, 0, none⟩), .int .i64 i] w fun e w' => e = .returned (.bool (has ws i)) ∧ w = w' := by
  have hs := h.size
  have HM := Lib.hid (made_yes hs h.pos)
  have hl := h.len
  have hm := h.most
  have hk : i / 64 < ws.length := by omega
  have hw := h.word (i / 64) hk
  have hc := h.cell hk
  obtain ⟨cap, cur, hb, hg, _⟩ := h.row
  have hc1 := hb.cellAt 1 _ rfl
  have ed : ((i : Int)).tdiv 64 = ((i / 64 : Nat) : Int) := by rw [Int.tdiv_eq_ediv_of_nonneg (by omega)]; rfl
  have em : ((i : Int)).tmod 64 = ((i % 64 : Nat) : Int) := by rw [Int.tmod_eq_emod_of_nonneg (by omega)]; rfl
  have ed2 : (i : Int) / 64 = ((i / 64 : Nat) : Int) := rfl
  have em2 : (i : Int) % 64 = ((i % 64 : Nat) : Int) := rfl
  have hk' : ((i / 64 : Nat) : Int) < ws.length := by omega
  have hm64 : i % 64 < 64 := Nat.mod_lt _ (by decide)
  have hbo := bit_one (ws.getD (i / 64) 0) (i % 64) hw
  rw [show ((ws.getD (i / 64) 0 / 2 ^ (i % 64) : Nat) : Int) = ((ws.getD (i / 64) 0 : Nat) : Int) / 2 ^ (i % 64) by simp] at hbo
  have HB := Lib.hid hbo
  clear hbo
  have HH := Lib.hid (show has ws i = (ws.getD (i / 64) 0).testBit (i % 64) from rfl)
  obtain ⟨x, hx⟩ : ∃ x, ws.getD (i / 64) 0 = x := ⟨_, rfl⟩
  rw [hx] at hw hc HB HH
  clear hx
  generalize hq : i / 64 = q at *
  generalize hr : i % 64 = r at *
  have ewq : IntKind.i64.wrap (q : Int) = q := IntWalk.i64_in _ (by omega)
  have ewr : IntKind.i64.wrap (r : Int) = r := IntWalk.i64_in _ (by omega)
  clear h hq hr hl
  go_enter Tryd.func18, Tryd.ntmps18
  go_wp2_with fail
  refine HM.out.mono ?_
  rintro e w' ⟨rfl, rfl⟩
  go_wp2_with fail
  go_ret
  rw [HH.out, ← HB.out]
  exact ⟨rfl, rfl⟩
set_option maxRecDepth 1000000 in
theorem Has_out {b gb n : Nat} {i : Int} {w : World} {ws : List Nat} (h : IsSet w b gb n ws) (hi : i < 0 ∨ (n : Int) ≤ i) :
    Calls Tryd.prog 18 #[.pointer (some ⟨b, 0, none⟩), .int .i64 i] w fun e w' => e = .returned (.bool false) ∧ w = w' := by
  have hs := h.size
  have HM := Lib.hid (made_yes hs h.pos)
  clear h
  by_cases hi0 : i < 0
  · clear hi
    go_enter Tryd.func18, Tryd.ntmps18
    go_wp2_with fail
    refine HM.out.mono ?_
    rintro e w' ⟨rfl, rfl⟩
    go_wp2_with fail
    go_ret
    exact ⟨rfl, rfl⟩
  · have hi1 : (n : Int) ≤ i := by omega
    clear hi
    go_enter Tryd.func18, Tryd.ntmps18
    go_wp2_with fail
    refine HM.out.mono ?_
    rintro e w' ⟨rfl, rfl⟩
    go_wp2_with fail
    go_ret
    exact ⟨rfl, rfl⟩
end Go.Proofs.YtcdnflffpeijfaaDoor
