/- The contract of strings.ContainsRune at the text "-._" and any rune; Plain. No condition. -/
import Derived.Test.YtkbelhhimllfnaaUnq
import Derived.StillTail
import Derived.StillTactics
import Derived.WalkMore
namespace Go.Proofs.Ytkbelhhimllfnaa
open Go.RowKit Go.Lib

theorem validRune_sc {r : Nat} (h : Sc r) : Lib.validRune (r : Int) = true := by
  unfold Sc at h
  simp [Lib.validRune]
  omega

theorem encode_sc {r : Nat} (h : Sc r) : Utf8.encode (r : Int) = ⟨(enc r).toArray⟩ := by
  have hv : Utf8.valid (r : Int) = true := by
    unfold Sc at h
    simp [Utf8.valid]
    omega
  unfold Utf8.encode
  simp only [hv, if_true, Int.toNat_natCast]
  by_cases h1 : r < 128
  · rw [if_pos h1, enc_one h1]
  · by_cases h2 : r < 2048
    · rw [if_neg h1, if_pos h2, enc_two (by omega) h2]
    · by_cases h3 : r < 65536
      · rw [if_neg h1, if_neg h2, if_pos h3, enc_three (by omega) h3 h]
      · rw [if_neg h1, if_neg h2, if_neg h3, enc_four (by omega) h]

set_option maxRecDepth 1000000 in
set_option maxHeartbeats 4000000 in
theorem IndexRune_err (w : World) : Calls Try.prog 43 #[.string ⟨#[45, 46, 95]⟩, .int .i32 65533] w fun e w' => e = .returned (.int .i64 (-1)) ∧ Keeps [] w w' := by
  go_enter Try.func43, Try.ntmps43
  go_wp2_with fail
  go_loopw [] (fun wr => ∃ pos, pos ≤ 3 ∧ wr.heap[w.heap.size]? = some (.stringIter ⟨#[45, 46, 95]⟩ pos) ∧ Keeps [] w wr) (fun wr => 3 - wr.iterPos w.heap.size)
  case atStart =>
    refine ⟨0, by omega, ?_, (Keeps.refl _ _).alloc _⟩
    have := World.iter_heap w ⟨#[45, 46, 95]⟩ 0
    simpa using this
  case round =>
    obtain ⟨pos, hp3, hit, hk⟩ := hrel
    by_cases hp : pos < 3
    · have hnx := fun ty => Lib.run_next_any_at (P := Try.prog) wr w.heap.size ⟨#[45, 46, 95]⟩ pos ty hit hp
      have hit2 := Lib.iterAt_heap wr w.heap.size ⟨#[45, 46, 95]⟩ pos (pos + 1) hit
      have hk2 := iterAt_keeps hk (Nat.le_refl _) ⟨#[45, 46, 95]⟩ (pos + 1)
      have hd : ∃ q, Utf8.decode ⟨#[45, 46, 95]⟩ pos = (q, 1) ∧ q < 100 := by
        have : pos = 0 ∨ pos = 1 ∨ pos = 2 := by omega
        rcases this with rfl | rfl | rfl
        · exact ⟨45, by decide, by decide⟩
        · exact ⟨46, by decide, by decide⟩
        · exact ⟨95, by decide, by decide⟩
      obtain ⟨q, hq, hq1⟩ := hd
      rw [hq] at hnx
      have hq2 : ((q : Int) == 65533) = false := by simp; omega
      clear hq
      go_wp2_with fail
      go_roundw
      case rel => exact ⟨pos + 1, by omega, hit2, hk2⟩
      case measure =>
        simp only [World.iterPos, hit2, hit]
        omega
    · have hnx := fun ty => Lib.run_next_end_at (P := Try.prog) wr w.heap.size ⟨#[45, 46, 95]⟩ pos ty hit hp
      go_wp2_with fail
      go_ret
      exact ⟨rfl, hk⟩
set_option maxRecDepth 1000000 in
set_option maxHeartbeats 4000000 in
theorem IndexRune_four {r : Nat} (h : 65536 ≤ r) (hs : Sc r) (hx : r ≠ 65533) (w : World) : Calls Try.prog 43 #[.string ⟨#[45, 46, 95]⟩, .int .i32 r] w fun e w' => e = .returned (.int .i64 (-1)) ∧ Keeps [] w w' := by
  have HV := Lib.hid (fun w => (Try.utf8_ValidRune r w))
  rw [validRune_sc hs] at HV
  have he := encode_sc hs
  rw [enc_four h hs] at he
  have e1 : ((r : Int) == 65533) = false := by simp; omega
  have hlast : 128 ≤ (UInt8.ofNat (128 + r % 64)).toNat := by rw [ofNat_toNat (by omega)]; omega
  generalize UInt8.ofNat (240 + r / 262144) = b0 at *
  generalize UInt8.ofNat (128 + r / 4096 % 64) = b1 at *
  generalize UInt8.ofNat (128 + r / 64 % 64) = b2 at *
  generalize UInt8.ofNat (128 + r % 64) = b3 at *
  have HE := Lib.hid he
  clear he hs hx
  go_enter Try.func43, Try.ntmps43
  go_wp2_with fail
  refine (HV.out _).mono ?_
  rintro e w' ⟨rfl, rfl⟩
  go_wp2_with fail
  have he := HE.out
  go_step3
  go_wp2_with fail
  refine wp_loop_rounds 1 ?_
  simp only [rounds_succ]
  go_wp2_with fail
  rw [Exit.noGoto_ret]
  go_ret
  exact ⟨rfl, Keeps.refl _ _⟩
end Go.Proofs.Ytkbelhhimllfnaa
