/- The contract of strings.IndexRune at the text "-._" and a rune of two or three bytes. No condition. -/
import Derived.Test.YtkbelhhimllfnaaRune
namespace Go.Proofs.Ytkbelhhimllfnaa
open Go.RowKit Go.Lib

set_option maxRecDepth 1000000 in
set_option maxHeartbeats 4000000 in
theorem IndexRune_two {r : Nat} (h : 128 ≤ r) (h' : r < 2048) (hs : Sc r) (hx : r ≠ 65533) (w : World) : Calls Try.prog 43 #[.string ⟨#[45, 46, 95]⟩, .int .i32 r] w fun e w' => e = .returned (.int .i64 (-1)) ∧ Keeps [] w w' := by
  have HV := Lib.hid (fun w => (Try.utf8_ValidRune r w))
  rw [validRune_sc hs] at HV
  have he := encode_sc hs
  rw [enc_two h h'] at he
  have e1 : ((r : Int) == 65533) = false := by simp; omega
  have hlast : 128 ≤ (UInt8.ofNat (128 + r % 64)).toNat := by rw [ofNat_toNat (by omega)]; omega
  generalize UInt8.ofNat (192 + r / 64) = b0 at *
  generalize UInt8.ofNat (128 + r % 64) = b3 at *
  have HE := Lib.hid he
  clear he hs hx
  go_enter Try.func43, Try.ntmps43
  go_wp2_with fail
  refine (HV.out _).mono ?_
  rintro e w' ⟨rfl, rfl⟩
  go_wp2_with fail
  have he := HE.out
  go_step3
  go_wp2_with fail
  refine wp_loop_rounds 1 ?_
  simp only [rounds_succ]
  have c1 : (46 : Int) ≠ (b3.toNat : Int) := by omega
  have HI := Lib.hid (Try.strings_IndexByte ⟨#[95]⟩ b3.toNat)
  go_wp2_with fail
  go_step3
  go_hide hQ
  have HQ := Lib.hid hQ
  clear hQ
  have g1 : ∀ h, ((⟨#[b0, b3]⟩ : ByteArray)[1]'h) = b3 := fun _ => rfl
  have g2 : ∀ h, ((⟨#[45, 46, 95]⟩ : ByteArray)[1]'h).toNat = 46 := fun _ => rfl
  have c2 : ((46 : Int) != (b3.toNat : Int)) = true := by simp; omega
  go_wp2_with fail
  go_quiet (fail)
  go_wp2_with fail
  have hsl : ByteArray.extract ⟨#[45, 46, 95]⟩ 2 3 = ⟨#[95]⟩ := by decide
  have hidx : Lib.indexByte (⟨#[95]⟩ : ByteArray).data.toList ((b3.toNat : Int)).toNat.toUInt8 = -1 := by
    have : ((b3.toNat : Int)).toNat.toUInt8 = b3 := by simp
    rw [this]
    have hb : b3 ≠ 95 := by rintro rfl; revert hlast; decide
    simp [Lib.indexByte, hb]
    try exact fun e => hb e.symm
  have HX := Lib.hid (fun w => (show Calls Try.prog 48 #[.string ⟨#[95]⟩, .int .u8 b3.toNat] w fun e w' => e = .returned (.int .i64 (-1)) ∧ w' = w by have := HI.out w; rw [hidx] at this; exact this))
  clear hidx HI
  have ew2 : IntKind.i64.wrap 2 = 2 := IntWalk.i64_in _ (by omega)
  have hk1 : Keeps [] w' (w'.drewN nq) := (Keeps.refl _ _).drewN _
  generalize w'.drewN nq = W1 at *
  go_quiet (refine Calls.quiet_of_same (HX.out _))
  have hk2 : Keeps [] w' (W1.drewN nq) := hk1.drewN _
  generalize W1.drewN nq = W2 at *
  go_wp2_with fail
  have hQ := HQ.out
  subst hQ
  first | rw [Exit.noGoto_ret] | skip
  go_wp2_with fail
  first | rw [Exit.noGoto_ret] | skip
  go_ret
  exact ⟨rfl, hk2⟩

set_option maxRecDepth 1000000 in
set_option maxHeartbeats 4000000 in
theorem IndexRune_three {r : Nat} (h : 2048 ≤ r) (h' : r < 65536) (hs : Sc r) (hx : r ≠ 65533) (w : World) : Calls Try.prog 43 #[.string ⟨#[45, 46, 95]⟩, .int .i32 r] w fun e w' => e = .returned (.int .i64 (-1)) ∧ Keeps [] w w' := by
  have HV := Lib.hid (fun w => (Try.utf8_ValidRune r w))
  rw [validRune_sc hs] at HV
  have he := encode_sc hs
  rw [enc_three h h' hs] at he
  have e1 : ((r : Int) == 65533) = false := by simp; omega
  have hlast : 128 ≤ (UInt8.ofNat (128 + r % 64)).toNat := by rw [ofNat_toNat (by omega)]; omega
  generalize UInt8.ofNat (224 + r / 4096) = b0 at *
  generalize UInt8.ofNat (128 + r / 64 % 64) = b2 at *
  generalize UInt8.ofNat (128 + r % 64) = b3 at *
  have HE := Lib.hid he
  clear he hs hx
  go_enter Try.func43, Try.ntmps43
  go_wp2_with fail
  refine (HV.out _).mono ?_
  rintro e w' ⟨rfl, rfl⟩
  go_wp2_with fail
  have he := HE.out
  go_step3
  go_wp2_with fail
  refine wp_loop_rounds 1 ?_
  simp only [rounds_succ]
  have c1 : (46 : Int) ≠ (b3.toNat : Int) := by omega
  have HI := Lib.hid (Try.strings_IndexByte ⟨#[]⟩ b3.toNat)
  go_wp2_with fail
  go_step3
  go_hide hQ
  have HQ := Lib.hid hQ
  clear hQ
  have g1 : ∀ h, ((⟨#[b0, b2, b3]⟩ : ByteArray)[2]'h) = b3 := fun _ => rfl
  have g2 : ∀ h, ((⟨#[45, 46, 95]⟩ : ByteArray)[2]'h).toNat = 95 := fun _ => rfl
  have c2 : ((95 : Int) != (b3.toNat : Int)) = true := by simp; omega
  go_wp2_with fail
  go_quiet (fail)
  go_wp2_with fail
  have hsl : ByteArray.extract ⟨#[45, 46, 95]⟩ 3 3 = ⟨#[]⟩ := by decide
  have hidx : Lib.indexByte (⟨#[]⟩ : ByteArray).data.toList ((b3.toNat : Int)).toNat.toUInt8 = -1 := by
    rfl
  have HX := Lib.hid (fun w => (show Calls Try.prog 48 #[.string ⟨#[]⟩, .int .u8 b3.toNat] w fun e w' => e = .returned (.int .i64 (-1)) ∧ w' = w by have := HI.out w; rw [hidx] at this; exact this))
  clear hidx HI
  have ew3 : IntKind.i64.wrap 3 = 3 := IntWalk.i64_in _ (by omega)
  have hk1 : Keeps [] w' (w'.drewN nq) := (Keeps.refl _ _).drewN _
  generalize w'.drewN nq = W1 at *
  go_quiet (refine Calls.quiet_of_same (HX.out _))
  have hk2 : Keeps [] w' (W1.drewN nq) := hk1.drewN _
  generalize W1.drewN nq = W2 at *
  go_wp2_with fail
  have hQ := HQ.out
  subst hQ
  first | rw [Exit.noGoto_ret] | skip
  go_wp2_with fail
  first | rw [Exit.noGoto_ret] | skip
  go_ret
  exact ⟨rfl, hk2⟩

end Go.Proofs.Ytkbelhhimllfnaa
