/- BufferApart: for every input the call returns true, and nothing that was there has changed. No condition. -/
import Derived.Test.YtmojlfkjbnokcaaClear
import Derived.Test.YtmojlfkjbnokcaaWorks
import Derived.Test.YtmojlfkjbnokcaaPairs
import Derived.OpenShut
namespace Go.Proofs.Ytmojlfkjbnokcaa
open Go.RowKit
set_option linter.unusedVariables false

/-- Behind do: it has returned true; the buffer is some buffer of its size; nothing else has changed. -/
def DoPost (b n : Nat) (w : World) (e : Ending) (w' : World) : Prop := e = .returned (.bool true) ∧ (∃ L wh, IsBuf w' b n L wh) ∧ Keeps [b] w w'


set_option maxRecDepth 100000 in
set_option maxHeartbeats 8000000 in
theorem do_nil (b n : Nat) (L0 : List Int) (wh0 : Bool) (w : World) (hb : IsBuf w b n L0 wh0) (a0 : Option Addr) (cap : Nat) : Calls Try.prog 27 #[.pointer (some ⟨b, 0, none⟩), .slice a0 0 cap] w (DoPost b n w) := by
  obtain ⟨q, hq⟩ : ∃ q : Nat, q ≤ 0 := ⟨0, Nat.le_refl _⟩
  go_enter Try.func27, Try.ntmps27
  go_wp2_with fail
  go_loopw [17] (fun i wr => ∃ (k : Nat) (L : List Int) (wh : Bool), i = .int .i64 k ∧ k ≤ q ∧ IsBuf wr b n L wh ∧ Keeps [b] w wr) (fun i _ => q - (intOf i).toNat)
  case atStart => exact ⟨0, _, _, rfl, Nat.zero_le _, hb, Keeps.refl _ _⟩
  case round =>
    obtain ⟨k, L, wh, rfl, hkq, hB, hK⟩ := hrel
    clear hb
    by_cases hlt : k < q
    · exact absurd hlt (by omega)
    · go_wp2_with fail
      go_ret
      exact ⟨rfl, ⟨_, _, hB⟩, hK⟩


set_option maxRecDepth 100000 in
set_option maxHeartbeats 8000000 in
theorem do_small (b n : Nat) (L0 : List Int) (wh0 : Bool) (w : World) (hb : IsBuf w b n L0 wh0) (g off len cap : Nat) (ms : List (Int × Int)) (hwf : ∀ m ∈ ms, (Lit.int .u8 m.1).wf = true ∧ (Lit.int .u8 m.2).wf = true) (hml : ms.length = len) (hlc : len ≤ cap) (hcm : cap ≤ 9223372036854775807) (hg : g < w.heap.size) (hgb : g ≠ b) (hlo : len ≤ 60) (hc : ∀ i, i < len → w.cell? ⟨g, off + i * 2, none⟩ = some (.int .u8 (ms.getD i (0, 0)).1) ∧ w.cell? ⟨g, off + i * 2 + 1, none⟩ = some (.int .u8 (ms.getD i (0, 0)).2)) : Calls Try.prog 27 #[.pointer (some ⟨b, 0, none⟩), .slice (some ⟨g, off, none⟩) len cap] w (DoPost b n w) := by
  obtain ⟨q, hq, hq'⟩ : ∃ q : Nat, q ≤ len ∧ len ≤ q := ⟨len, Nat.le_refl _, Nat.le_refl _⟩
  have HWF := Lib.hid hwf
  have HC := Lib.hid hc
  have HML := Lib.hid hml
  clear hwf hc hml
  go_enter Try.func27, Try.ntmps27
  go_wp2_with fail
  go_loopw [17] (fun i wr => ∃ (k : Nat) (L : List Int) (wh : Bool), i = .int .i64 k ∧ k ≤ q ∧ IsBuf wr b n L wh ∧ Keeps [b] w wr) (fun i _ => q - (intOf i).toNat)
  case atStart => exact ⟨0, _, _, rfl, Nat.zero_le _, hb, Keeps.refl _ _⟩
  case round =>
    obtain ⟨k, L, wh, rfl, hkq, hB, hK⟩ := hrel
    clear hb
    by_cases hlt : k < q
    · have hcell := HC.out k (by omega)
      have hw2 := HWF.out _ (getD_mem ms (0, 0) k (by have := HML.out; omega))
      have x0 : wr.cell? ⟨g, off + k * 2, none⟩ = some (.int .u8 (ms.getD k (0, 0)).1) := (hK.cell (p := ⟨g, off + k * 2, none⟩) hg (by simpa using hgb)).trans hcell.1
      have x1 : wr.cell? ⟨g, off + k * 2 + 1, none⟩ = some (.int .u8 (ms.getD k (0, 0)).2) := (hK.cell (p := ⟨g, off + k * 2 + 1, none⟩) hg (by simpa using hgb)).trans hcell.2
      have hb1 := bounds_u8 hw2.1
      have hb2 := bounds_u8 hw2.2
      clear hcell hw2
      generalize (ms.getD k (0, 0)).1 = d at *
      generalize (ms.getD k (0, 0)).2 = x at *
      by_cases hd : d % 4 = 3
      · have hd1 : (d % 4 == 3) = true := by simp [hd]
        clear hd
        obtain ⟨z, hz⟩ : ∃ z : Nat, x % 16 = (z : Int) := ⟨(x % 16).toNat, by omega⟩
        have hz16 : z ≤ 15 := by omega
        have HZ := Lib.hid hz
        clear hz
        go_wp2_with fail
        rw [HZ.out]
        have bX := Blk.new wr 28 #[.int .u8 d, .int .u8 x]
        have hbX := hB.lt
        have hBv := hB.alloc (.cells #[.int .u8 d, .int .u8 x] 28)
        have hKv := hK.alloc (.cells #[.int .u8 d, .int .u8 x] 28)
        clear hB hK x0 x1
        generalize wr.heap.size = X at *
        generalize wr.alloc (.cells #[.int .u8 d, .int .u8 x] 28) = V at *
        refine (drain_ok hBv z (by omega)).mono ?_
        rintro e w2 ⟨vx, rfl, hx, hB2, hkd⟩
        have hK2 := hKv.trans hkd
        generalize L.take z = T at *
        obtain ⟨w3, hclr, hk3⟩ := clear_own hx
        have hfr := hx.from_
        have hsv := hBv.lt
        have hB3 := hB2.keeps hk3 (own_free hfr hsv)
        have hK3 := hK2.step hk3 (by intro y hy; have h1 := hfr y (by simpa using hy); have h2 := hKv.size; right; omega)
        obtain ⟨a3, c3, rfl⟩ := hx.shape
        clear hBv hkd hKv hK2 hB2 hx hfr hk3
        go_wp2_with fail
        go_roundw
        case rel => exact ⟨k + 1, _, _, by go_num, by omega, hB3, hK3⟩
        case measure => simp [intOf]; omega
      · have hd1 : (d % 4 == 3) = false := by simp [hd]
        clear hd
        go_wp2_with fail
        have bX := Blk.new wr 28 #[.int .u8 d, .int .u8 x]
        have hbX := hB.lt
        have hBv := hB.alloc (.cells #[.int .u8 d, .int .u8 x] 28)
        have hKv := hK.alloc (.cells #[.int .u8 d, .int .u8 x] 28)
        clear hB hK x0 x1
        generalize wr.heap.size = X at *
        generalize wr.alloc (.cells #[.int .u8 d, .int .u8 x] 28) = V at *
        have hle := hBv.le
        by_cases hroom : L.length < n
        · refine (note_ok hBv x (by omega) (by omega) hroom).mono ?_
          rintro e w2 ⟨rfl, hB2, hkd⟩
          have hK2 := hKv.trans hkd
          go_wp2_with fail
          go_roundw
          case rel => exact ⟨k + 1, _, _, by go_num, by omega, hB2, hK2⟩
          case measure => simp [intOf]; omega
        · refine (note_full hBv x (by omega) (by omega) (by omega)).mono ?_
          rintro e w2 ⟨rfl, hB2, hkd⟩
          have hK2 := hKv.trans hkd
          go_wp2_with fail
          go_roundw
          case rel => exact ⟨k + 1, _, _, by go_num, by omega, hB2, hK2⟩
          case measure => simp [intOf]; omega
    · go_wp2_with fail
      go_ret
      exact ⟨rfl, ⟨_, _, hB⟩, hK⟩


set_option maxRecDepth 100000 in
set_option maxHeartbeats 8000000 in
theorem do_big (b n : Nat) (L0 : List Int) (wh0 : Bool) (w : World) (hb : IsBuf w b n L0 wh0) (g off len cap : Nat) (ms : List (Int × Int)) (hwf : ∀ m ∈ ms, (Lit.int .u8 m.1).wf = true ∧ (Lit.int .u8 m.2).wf = true) (hml : ms.length = len) (hlc : len ≤ cap) (hcm : cap ≤ 9223372036854775807) (hg : g < w.heap.size) (hgb : g ≠ b) (hlo : 60 < len) (hc : ∀ i, i < len → w.cell? ⟨g, off + i * 2, none⟩ = some (.int .u8 (ms.getD i (0, 0)).1) ∧ w.cell? ⟨g, off + i * 2 + 1, none⟩ = some (.int .u8 (ms.getD i (0, 0)).2)) : Calls Try.prog 27 #[.pointer (some ⟨b, 0, none⟩), .slice (some ⟨g, off, none⟩) len cap] w (DoPost b n w) := by
  obtain ⟨q, hq, hq'⟩ : ∃ q : Nat, q ≤ 60 ∧ 60 ≤ q := ⟨60, Nat.le_refl _, Nat.le_refl _⟩
  have HWF := Lib.hid hwf
  have HC := Lib.hid hc
  have HML := Lib.hid hml
  clear hwf hc hml
  go_enter Try.func27, Try.ntmps27
  go_wp2_with fail
  go_loopw [17] (fun i wr => ∃ (k : Nat) (L : List Int) (wh : Bool), i = .int .i64 k ∧ k ≤ q ∧ IsBuf wr b n L wh ∧ Keeps [b] w wr) (fun i _ => q - (intOf i).toNat)
  case atStart => exact ⟨0, _, _, rfl, Nat.zero_le _, hb, Keeps.refl _ _⟩
  case round =>
    obtain ⟨k, L, wh, rfl, hkq, hB, hK⟩ := hrel
    clear hb
    by_cases hlt : k < q
    · have hcell := HC.out k (by omega)
      have hw2 := HWF.out _ (getD_mem ms (0, 0) k (by have := HML.out; omega))
      have x0 : wr.cell? ⟨g, off + k * 2, none⟩ = some (.int .u8 (ms.getD k (0, 0)).1) := (hK.cell (p := ⟨g, off + k * 2, none⟩) hg (by simpa using hgb)).trans hcell.1
      have x1 : wr.cell? ⟨g, off + k * 2 + 1, none⟩ = some (.int .u8 (ms.getD k (0, 0)).2) := (hK.cell (p := ⟨g, off + k * 2 + 1, none⟩) hg (by simpa using hgb)).trans hcell.2
      have hb1 := bounds_u8 hw2.1
      have hb2 := bounds_u8 hw2.2
      clear hcell hw2
      generalize (ms.getD k (0, 0)).1 = d at *
      generalize (ms.getD k (0, 0)).2 = x at *
      by_cases hd : d % 4 = 3
      · have hd1 : (d % 4 == 3) = true := by simp [hd]
        clear hd
        obtain ⟨z, hz⟩ : ∃ z : Nat, x % 16 = (z : Int) := ⟨(x % 16).toNat, by omega⟩
        have hz16 : z ≤ 15 := by omega
        have HZ := Lib.hid hz
        clear hz
        go_wp2_with fail
        rw [HZ.out]
        have bX := Blk.new wr 28 #[.int .u8 d, .int .u8 x]
        have hbX := hB.lt
        have hBv := hB.alloc (.cells #[.int .u8 d, .int .u8 x] 28)
        have hKv := hK.alloc (.cells #[.int .u8 d, .int .u8 x] 28)
        clear hB hK x0 x1
        generalize wr.heap.size = X at *
        generalize wr.alloc (.cells #[.int .u8 d, .int .u8 x] 28) = V at *
        refine (drain_ok hBv z (by omega)).mono ?_
        rintro e w2 ⟨vx, rfl, hx, hB2, hkd⟩
        have hK2 := hKv.trans hkd
        generalize L.take z = T at *
        obtain ⟨w3, hclr, hk3⟩ := clear_own hx
        have hfr := hx.from_
        have hsv := hBv.lt
        have hB3 := hB2.keeps hk3 (own_free hfr hsv)
        have hK3 := hK2.step hk3 (by intro y hy; have h1 := hfr y (by simpa using hy); have h2 := hKv.size; right; omega)
        obtain ⟨a3, c3, rfl⟩ := hx.shape
        clear hBv hkd hKv hK2 hB2 hx hfr hk3
        go_wp2_with fail
        go_roundw
        case rel => exact ⟨k + 1, _, _, by go_num, by omega, hB3, hK3⟩
        case measure => simp [intOf]; omega
      · have hd1 : (d % 4 == 3) = false := by simp [hd]
        clear hd
        go_wp2_with fail
        have bX := Blk.new wr 28 #[.int .u8 d, .int .u8 x]
        have hbX := hB.lt
        have hBv := hB.alloc (.cells #[.int .u8 d, .int .u8 x] 28)
        have hKv := hK.alloc (.cells #[.int .u8 d, .int .u8 x] 28)
        clear hB hK x0 x1
        generalize wr.heap.size = X at *
        generalize wr.alloc (.cells #[.int .u8 d, .int .u8 x] 28) = V at *
        have hle := hBv.le
        by_cases hroom : L.length < n
        · refine (note_ok hBv x (by omega) (by omega) hroom).mono ?_
          rintro e w2 ⟨rfl, hB2, hkd⟩
          have hK2 := hKv.trans hkd
          go_wp2_with fail
          go_roundw
          case rel => exact ⟨k + 1, _, _, by go_num, by omega, hB2, hK2⟩
          case measure => simp [intOf]; omega
        · refine (note_full hBv x (by omega) (by omega) (by omega)).mono ?_
          rintro e w2 ⟨rfl, hB2, hkd⟩
          have hK2 := hKv.trans hkd
          go_wp2_with fail
          go_roundw
          case rel => exact ⟨k + 1, _, _, by go_num, by omega, hB2, hK2⟩
          case measure => simp [intOf]; omega
    · go_wp2_with fail
      go_ret
      exact ⟨rfl, ⟨_, _, hB⟩, hK⟩


theorem do_any (b n : Nat) (L0 : List Int) (wh0 : Bool) (v : Value) (ms : List (Int × Int)) (w : World) (hb : IsBuf w b n L0 wh0) (hv : ArgP .u8 .u8 w v ms) (hgb : 0 < ms.length → ∀ g, v.ownBlock = some g → g ≠ b) : Calls Try.prog 27 #[.pointer (some ⟨b, 0, none⟩), v] w (DoPost b n w) := by
  obtain ⟨hwf, hv⟩ := hv
  rcases hv with ⟨rfl, a, cap, rfl⟩ | ⟨g, off, cap, rfl, hlc, hcm, hg, h0, hc⟩
  · exact do_nil b n L0 wh0 w hb a cap
  · unfold maxLen at hcm
    rcases Nat.lt_or_ge 60 ms.length with h | h
    · exact do_big b n L0 wh0 w hb g off ms.length cap ms hwf rfl hlc hcm hg (hgb h0 g rfl) h (fun i hi => hc i hi)
    · exact do_small b n L0 wh0 w hb g off ms.length cap ms hwf rfl hlc hcm hg (hgb h0 g rfl) h (fun i hi => hc i hi)
end Go.Proofs.Ytmojlfkjbnokcaa
