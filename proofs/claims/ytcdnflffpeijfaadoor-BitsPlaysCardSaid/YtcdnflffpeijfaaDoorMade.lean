/- The contract of the laws' made: a new set of a size with some numbers, and the row that says which. Condition: a size of 1 to 4096. Printed by gen-made.py. -/
import Derived.Test.YtcdnflffpeijfaaDoorSetOf
import Derived.OpenShut
namespace Go.Proofs.YtcdnflffpeijfaaDoor
open Go.RowKit

def MadePost (n : Nat) (w : World) (e : Ending) (w' : World) : Prop := ∃ b gb gh p, e = .returned (.tuple #[.pointer (some ⟨b, 0, none⟩), .slice (some ⟨gh, 0, none⟩) n n, .bool true]) ∧ SetOf w' b gb n p ∧ Blk w' gh 4 (boolRow n p) ∧ Keeps [] w w' ∧ w.heap.size ≤ b ∧ w.heap.size ≤ gb ∧ w.heap.size ≤ gh
theorem infoBool : (Tryd.prog.info? 4).map (fun i => (i.zero, i.size, i.bytes)) = some (some (.bool false), 1, 1) := by kernel_rfl
theorem made_bools (n : Nat) (p : Nat → Bool) (hp : ∀ i, p i = false) : madeCells #[.bool false] n = boolRow n p := by
  apply Array.ext
  · simp [madeCells, boolRow]
  · intro i h1 h2
    simp [madeCells, boolRow, Nat.mod_one, hp]
theorem row_add {n i : Nat} {p : Nat → Bool} : (boolRow n p).setIfInBounds i (.bool true) = boolRow n (withP p i) :=
  boolRow_set (fun j _ => by
    unfold withP
    by_cases e : j = i
    · simp [e]
    · simp [e])
theorem row_drop {n i : Nat} {p : Nat → Bool} : (boolRow n p).setIfInBounds i (.bool false) = boolRow n (lessP p i) :=
  boolRow_set (fun j _ => by
    unfold lessP
    by_cases e : j = i
    · simp [e]
    · simp [e])
theorem tmod_nat (x n : Nat) : Int.tmod (x : Int) (n : Int) = ((x % n : Nat) : Int) := by rw [Int.tmod_eq_emod_of_nonneg (by omega)]; rfl

set_option maxRecDepth 1000000 in
set_option maxHeartbeats 4000000 in
theorem made_none {n : Nat} (h1 : 1 ≤ n) (h2 : n ≤ 4096) (a : Option Addr) (cap : Nat) (w : World)  :
    Calls Tryd.prog 10 #[.int .i64 n, .slice a 0 cap] w (MadePost n w) := by
  obtain ⟨ti, hi, hz0, hz1, hz2⟩ := info_parts infoBool
  have hmk : ∀ w : World, (Instr.makeSlice 25 (.int .i64 n) (.int .i64 n)).run Tryd.prog w = .ok (.slice (some ⟨w.heap.size, 0, none⟩) n n) (w.alloc (.cells (madeCells #[.bool false] n) 4)) := by
    intro w
    have := run_makeSlice (P := Tryd.prog) w 25 4 ti (.bool false) Tryd.underlying25 hi hz0 .i64 .i64 n n (by omega) (by omega) (by rw [hz1, Int.toNat_natCast]; omega) (by rw [hz2]; omega) (by omega)
    rw [hz1, Int.toNat_natCast, Nat.mul_one] at this
    exact this
  have HM := Lib.hid (New_p h1 h2 w)
  clear hi hz0 hz1 hz2
  have hz : ((n : Int) == 0) = false := by simp; omega
  have hz' : ¬ (n : Int) = 0 := by omega
  go_enter Tryd.func10, Tryd.ntmps10
  go_wp2_with fail
  refine HM.out.mono ?_
  rintro e w1 ⟨rfl, hs, hk⟩
  obtain ⟨b, hb⟩ : ∃ b, w.heap.size + 1 = b := ⟨_, rfl⟩
  obtain ⟨gb, hgb⟩ : ∃ gb, w.heap.size = gb := ⟨_, rfl⟩
  have hbl : w.heap.size ≤ b := by omega
  have hgl : w.heap.size ≤ gb := by omega
  rw [hb, hgb] at hs
  rw [hb]
  clear hb hgb
  have hk1 := hk.alloc (.cells (madeCells #[.bool false] n) 4)
  have hrow := Blk.new w1 4 (madeCells #[.bool false] n)
  rw [made_bools n noneP (fun _ => rfl)] at hrow
  have hs1 := hs.keeps ((Keeps.refl [] w1).alloc (.cells (madeCells #[.bool false] n) 4)) (by simp) (by simp)
  have hgh : w.heap.size ≤ w1.heap.size := hk.size
  rw [made_bools n noneP (fun _ => rfl)] at hs1 hk1 hmk
  clear hs hk
  go_wp2_with fail
  generalize w1.alloc (.cells (boolRow n noneP) 4) = w2 at *
  generalize w1.heap.size = gh at *
  refine wp_loop_rounds 1 ?_
  rw [rounds_succ]
  go_wp2_with fail
  refine bodyPost_ret (results_tmp3 rfl _ _ _) rfl ?_
  exact ⟨b, gb, gh, _, rfl, hs1, hrow, hk1, hbl, hgl, hgh⟩

set_option maxRecDepth 1000000 in
set_option maxHeartbeats 4000000 in
theorem made_few {n : Nat} (h1 : 1 ≤ n) (h2 : n ≤ 4096) (g off cap : Nat) (zs : List Int) (w : World) (hwf : ∀ z ∈ zs, (Lit.int .u16 z).wf = true) (h0 : 0 < zs.length) (hlc : zs.length ≤ cap) (hcm : cap ≤ 9223372036854775807) (hg : g < w.heap.size) (hle : zs.length ≤ 100) (hc : ∀ i, i < zs.length → w.cell? ⟨g, off + i, none⟩ = some (.int .u16 (zs.getD i 0))) :
    Calls Tryd.prog 10 #[.int .i64 n, .slice (some ⟨g, off, none⟩) zs.length cap] w (MadePost n w) := by
  obtain ⟨ti, hi, hz0, hz1, hz2⟩ := info_parts infoBool
  have hmk : ∀ w : World, (Instr.makeSlice 25 (.int .i64 n) (.int .i64 n)).run Tryd.prog w = .ok (.slice (some ⟨w.heap.size, 0, none⟩) n n) (w.alloc (.cells (madeCells #[.bool false] n) 4)) := by
    intro w
    have := run_makeSlice (P := Tryd.prog) w 25 4 ti (.bool false) Tryd.underlying25 hi hz0 .i64 .i64 n n (by omega) (by omega) (by rw [hz1, Int.toNat_natCast]; omega) (by rw [hz2]; omega) (by omega)
    rw [hz1, Int.toNat_natCast, Nat.mul_one] at this
    exact this
  have HM := Lib.hid (New_p h1 h2 w)
  clear hi hz0 hz1 hz2
  have hz : ((n : Int) == 0) = false := by simp; omega
  have hz' : ¬ (n : Int) = 0 := by omega
  have HC := Lib.hid hc
  have HW := Lib.hid hwf
  clear hc hwf
  have hcap : ¬ cap = 0 := by omega
  have hcap0 : 0 < cap := by omega
  go_enter Tryd.func10, Tryd.ntmps10
  go_wp2_with fail
  refine HM.out.mono ?_
  rintro e w1 ⟨rfl, hs, hk⟩
  obtain ⟨b, hb⟩ : ∃ b, w.heap.size + 1 = b := ⟨_, rfl⟩
  obtain ⟨gb, hgb⟩ : ∃ gb, w.heap.size = gb := ⟨_, rfl⟩
  have hbl : w.heap.size ≤ b := by omega
  have hgl : w.heap.size ≤ gb := by omega
  rw [hb, hgb] at hs
  rw [hb]
  clear hb hgb
  have hk1 := hk.alloc (.cells (madeCells #[.bool false] n) 4)
  have hrow := Blk.new w1 4 (madeCells #[.bool false] n)
  rw [made_bools n noneP (fun _ => rfl)] at hrow
  have hs1 := hs.keeps ((Keeps.refl [] w1).alloc (.cells (madeCells #[.bool false] n) 4)) (by simp) (by simp)
  have hgh : w.heap.size ≤ w1.heap.size := hk.size
  rw [made_bools n noneP (fun _ => rfl)] at hs1 hk1 hmk
  clear hs hk
  go_wp2_with fail
  generalize w1.alloc (.cells (boolRow n noneP) 4) = w2 at *
  generalize w1.heap.size = gh at *
  go_loopw [27] (fun i wr => ∃ (k : Nat) (p : Nat → Bool), i = .int .i64 k ∧ k ≤ zs.length ∧ SetOf wr b gb n p ∧ Blk wr gh 4 (boolRow n p) ∧ Keeps [] w wr) (fun i _ => zs.length - (intOf i).toNat)
  case atStart => exact ⟨0, _, rfl, Nat.zero_le _, hs1, hrow, hk1⟩
  case round =>
    obtain ⟨k, p, rfl, hk, hs, hr, hK⟩ := hrel
    by_cases hkq : k < zs.length
    · have c0 := (hK.cell (p := ⟨g, off + k, none⟩) hg (by simp)).trans (HC.out k (by omega))
      have hw := Go.bounds_u16 (HW.out _ (getD_mem zs 0 k (by omega)))
      obtain ⟨x, hx⟩ : ∃ x, zs.getD k 0 = x := ⟨_, rfl⟩
      rw [hx] at hw c0
      obtain ⟨x, rfl⟩ : ∃ u : Nat, x = (u : Int) := ⟨x.toNat, by omega⟩
      clear hx
      have em := tmod_nat x n
      obtain ⟨i, hi⟩ : ∃ i, x % n = i := ⟨_, rfl⟩
      have hin : i < n := by rw [← hi]; exact Nat.mod_lt _ (by omega)
      rw [hi] at em
      clear hi
      have f0 := hr.frozen i
      have c1 := hr.cellAt i _ (boolRow_at n p hin)
      have hr2 := hr.put i (.bool true)
      rw [row_add] at hr2
      obtain ⟨hbne, hne⟩ := hs.row hr (by decide) (by decide)
      have hs2 := hs.keeps ((Keeps.refl [gh] wr).setCell (p := ⟨gh, i, none⟩) (.inl (by simp)) (.bool true)) (by simpa using fun e => hbne e.symm) (by simpa using fun e => hne e.symm)
      have hK2 := hK.setCell (p := ⟨gh, i, none⟩) (.inr hgh) (.bool true)
      have hin' : (i : Int) < n := by omega
      have HA := Lib.hid (Add_p hs2 hin)
      have HR := Lib.hid hr2
      have HK := Lib.hid hK2
      clear hr2 hK2 hs2 hs hr hK
      go_wp2_with fail
      refine HA.out.mono ?_
      rintro e w3 ⟨rfl, hs3, hk3⟩
      have hr3 := HR.out.keeps hk3 (by simpa using hne)
      have hK3 := HK.out.step hk3 (by simp; omega)
      go_wp2_with fail
      go_roundw
      case rel => exact ⟨k + 1, _, by go_num, by omega, hs3, hr3, hK3⟩
      case measure => simp [intOf]; omega
    · go_wp2_with fail
      refine bodyPost_ret (results_tmp3 rfl _ _ _) rfl ?_
      exact ⟨b, gb, gh, p, rfl, hs, hr, hK, hbl, hgl, hgh⟩

set_option maxRecDepth 1000000 in
set_option maxHeartbeats 4000000 in
theorem made_many {n : Nat} (h1 : 1 ≤ n) (h2 : n ≤ 4096) (g off cap : Nat) (zs : List Int) (w : World) (hwf : ∀ z ∈ zs, (Lit.int .u16 z).wf = true) (h0 : 0 < zs.length) (hlc : zs.length ≤ cap) (hcm : cap ≤ 9223372036854775807) (hg : g < w.heap.size) (hle : 100 < zs.length) (hc : ∀ i, i < zs.length → w.cell? ⟨g, off + i, none⟩ = some (.int .u16 (zs.getD i 0))) :
    Calls Tryd.prog 10 #[.int .i64 n, .slice (some ⟨g, off, none⟩) zs.length cap] w (MadePost n w) := by
  obtain ⟨ti, hi, hz0, hz1, hz2⟩ := info_parts infoBool
  have hmk : ∀ w : World, (Instr.makeSlice 25 (.int .i64 n) (.int .i64 n)).run Tryd.prog w = .ok (.slice (some ⟨w.heap.size, 0, none⟩) n n) (w.alloc (.cells (madeCells #[.bool false] n) 4)) := by
    intro w
    have := run_makeSlice (P := Tryd.prog) w 25 4 ti (.bool false) Tryd.underlying25 hi hz0 .i64 .i64 n n (by omega) (by omega) (by rw [hz1, Int.toNat_natCast]; omega) (by rw [hz2]; omega) (by omega)
    rw [hz1, Int.toNat_natCast, Nat.mul_one] at this
    exact this
  have HM := Lib.hid (New_p h1 h2 w)
  clear hi hz0 hz1 hz2
  have hz : ((n : Int) == 0) = false := by simp; omega
  have hz' : ¬ (n : Int) = 0 := by omega
  have HC := Lib.hid hc
  have HW := Lib.hid hwf
  clear hc hwf
  have hcap : ¬ cap = 0 := by omega
  have hcap0 : 0 < cap := by omega
  go_enter Tryd.func10, Tryd.ntmps10
  go_wp2_with fail
  refine HM.out.mono ?_
  rintro e w1 ⟨rfl, hs, hk⟩
  obtain ⟨b, hb⟩ : ∃ b, w.heap.size + 1 = b := ⟨_, rfl⟩
  obtain ⟨gb, hgb⟩ : ∃ gb, w.heap.size = gb := ⟨_, rfl⟩
  have hbl : w.heap.size ≤ b := by omega
  have hgl : w.heap.size ≤ gb := by omega
  rw [hb, hgb] at hs
  rw [hb]
  clear hb hgb
  have hk1 := hk.alloc (.cells (madeCells #[.bool false] n) 4)
  have hrow := Blk.new w1 4 (madeCells #[.bool false] n)
  rw [made_bools n noneP (fun _ => rfl)] at hrow
  have hs1 := hs.keeps ((Keeps.refl [] w1).alloc (.cells (madeCells #[.bool false] n) 4)) (by simp) (by simp)
  have hgh : w.heap.size ≤ w1.heap.size := hk.size
  rw [made_bools n noneP (fun _ => rfl)] at hs1 hk1 hmk
  clear hs hk
  go_wp2_with fail
  generalize w1.alloc (.cells (boolRow n noneP) 4) = w2 at *
  generalize w1.heap.size = gh at *
  go_loopw [27] (fun i wr => ∃ (k : Nat) (p : Nat → Bool), i = .int .i64 k ∧ k ≤ 100 ∧ SetOf wr b gb n p ∧ Blk wr gh 4 (boolRow n p) ∧ Keeps [] w wr) (fun i _ => 100 - (intOf i).toNat)
  case atStart => exact ⟨0, _, rfl, Nat.zero_le _, hs1, hrow, hk1⟩
  case round =>
    obtain ⟨k, p, rfl, hk, hs, hr, hK⟩ := hrel
    by_cases hkq : k < 100
    · have c0 := (hK.cell (p := ⟨g, off + k, none⟩) hg (by simp)).trans (HC.out k (by omega))
      have hw := Go.bounds_u16 (HW.out _ (getD_mem zs 0 k (by omega)))
      obtain ⟨x, hx⟩ : ∃ x, zs.getD k 0 = x := ⟨_, rfl⟩
      rw [hx] at hw c0
      obtain ⟨x, rfl⟩ : ∃ u : Nat, x = (u : Int) := ⟨x.toNat, by omega⟩
      clear hx
      have em := tmod_nat x n
      obtain ⟨i, hi⟩ : ∃ i, x % n = i := ⟨_, rfl⟩
      have hin : i < n := by rw [← hi]; exact Nat.mod_lt _ (by omega)
      rw [hi] at em
      clear hi
      have f0 := hr.frozen i
      have c1 := hr.cellAt i _ (boolRow_at n p hin)
      have hr2 := hr.put i (.bool true)
      rw [row_add] at hr2
      obtain ⟨hbne, hne⟩ := hs.row hr (by decide) (by decide)
      have hs2 := hs.keeps ((Keeps.refl [gh] wr).setCell (p := ⟨gh, i, none⟩) (.inl (by simp)) (.bool true)) (by simpa using fun e => hbne e.symm) (by simpa using fun e => hne e.symm)
      have hK2 := hK.setCell (p := ⟨gh, i, none⟩) (.inr hgh) (.bool true)
      have hin' : (i : Int) < n := by omega
      have HA := Lib.hid (Add_p hs2 hin)
      have HR := Lib.hid hr2
      have HK := Lib.hid hK2
      clear hr2 hK2 hs2 hs hr hK
      go_wp2_with fail
      refine HA.out.mono ?_
      rintro e w3 ⟨rfl, hs3, hk3⟩
      have hr3 := HR.out.keeps hk3 (by simpa using hne)
      have hK3 := HK.out.step hk3 (by simp; omega)
      go_wp2_with fail
      go_roundw
      case rel => exact ⟨k + 1, _, by go_num, by omega, hs3, hr3, hK3⟩
      case measure => simp [intOf]; omega
    · go_wp2_with fail
      refine bodyPost_ret (results_tmp3 rfl _ _ _) rfl ?_
      exact ⟨b, gb, gh, p, rfl, hs, hr, hK, hbl, hgl, hgh⟩

/-- For whatever list of numbers. -/
theorem made_in {n : Nat} (h1 : 1 ≤ n) (h2 : n ≤ 4096) {v : Value} {zs : List Int} {w : World} (hv : ArgI .u16 w v zs) : Calls Tryd.prog 10 #[.int .i64 n, v] w (MadePost n w) := by
  obtain ⟨hwf, ⟨rfl, a, cap, rfl⟩ | ⟨g, off, cap, rfl, hlc, hcm, hg, h0, hc⟩⟩ := hv
  · exact made_none h1 h2 a cap w
  · unfold maxLen at hcm
    by_cases hle : zs.length ≤ 100
    · exact made_few h1 h2 g off cap zs w hwf h0 hlc (by omega) hg hle hc
    · exact made_many h1 h2 g off cap zs w hwf h0 hlc (by omega) hg (by omega) hc
end Go.Proofs.YtcdnflffpeijfaaDoor
