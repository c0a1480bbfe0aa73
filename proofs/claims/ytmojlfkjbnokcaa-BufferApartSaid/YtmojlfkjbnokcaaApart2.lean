/- BufferApart's walk. No condition. -/
import Derived.Test.YtmojlfkjbnokcaaApart
namespace Go.Proofs.Ytmojlfkjbnokcaa
open Go.RowKit
set_option linter.unusedVariables false

theorem ArgP.keeps {k0 k1 : IntKind} {w w' : World} {v : Value} {ms : List (Int × Int)} {S : List Nat} (h : ArgP k0 k1 w v ms) (k : Keeps S w w') (hn : 0 < ms.length → ∀ g, v.ownBlock = some g → g ∉ S) : ArgP k0 k1 w' v ms := by
  obtain ⟨hwf, hv⟩ := h
  refine ⟨hwf, ?_⟩
  rcases hv with h | ⟨g, off, cap, rfl, hlc, hcm, hg, h0, hc⟩
  · exact .inl h
  · exact .inr ⟨g, off, cap, rfl, hlc, hcm, Nat.lt_of_lt_of_le hg k.size, h0, fun i hi => ⟨(k.cell (p := ⟨g, off + i * 2, none⟩) hg (hn h0 g rfl)).trans (hc i hi).1, (k.cell (p := ⟨g, off + i * 2 + 1, none⟩) hg (hn h0 g rfl)).trans (hc i hi).2⟩⟩

theorem ArgP.lt {k0 k1 : IntKind} {w : World} {v : Value} {ms : List (Int × Int)} (h : ArgP k0 k1 w v ms) (h0 : 0 < ms.length) : ∀ g, v.ownBlock = some g → g < w.heap.size := by
  rcases h.2 with ⟨rfl, _⟩ | ⟨g, off, cap, rfl, hlc, hcm, hg, _, hc⟩
  · simp at h0
  · intro g' e
    cases e
    exact hg

set_option maxRecDepth 100000 in
set_option maxHeartbeats 8000000 in
theorem apart_walk (s : Nat) (hs : s ≤ 255) (v1 v2 : Value) (m1 m2 : List (Int × Int)) (w : World) (h1 : ArgP .u8 .u8 w v1 m1) (h2 : ArgP .u8 .u8 w v2 m2) : Calls Try.prog 8 #[.int .u8 s, v1, v2] w fun e w' => e = .returned (.bool true) ∧ Below w.heap.size w w' := by
  obtain ⟨n, hn⟩ : ∃ n, 1 + s % 64 = n := ⟨_, rfl⟩
  have hmade := made_size s hs w
  rw [hn] at hmade
  have HM := Lib.hid hmade
  clear hmade hn
  have L1 := Lib.hid (fun h => h1.lt h)
  have L2 := Lib.hid (fun h => h2.lt h)
  go_enter Try.func8, Try.ntmps8
  go_wp2_with fail
  refine HM.out.mono ?_
  rintro e w1 ⟨rfl, hb, hk, hz⟩
  clear HM
  obtain ⟨b, hbq⟩ : ∃ b, w.heap.size = b := ⟨_, rfl⟩
  rw [hbq] at hb L1 L2 ⊢
  have hbw : w.heap.size ≤ b := by omega
  clear hz
  have HBQ := Lib.hid hbq
  clear hbq
  have a1 := h1.keeps hk (by simp)
  have a2 := h2.keeps hk (by simp)
  clear h1 h2
  go_wp2_with fail
  refine (do_any b n _ _ v1 m1 _ hb a1 (fun h0 g hg => Nat.ne_of_lt (L1.out h0 g hg))).mono ?_
  rintro e w2 ⟨rfl, ⟨L, wh, hB⟩, hk2⟩
  have hK2 := hk.step hk2 (by simp; omega)
  have a22 := a2.keeps hk2 (fun h0 g hg => by have := L2.out h0 g hg; simp; omega)
  clear hb hk2 hk a1 a2 L1
  go_wp2_with fail
  refine (copy_ok hB).mono ?_
  rintro e w3 ⟨rfl, hC, hk3, hs3⟩
  have hB3 := hB.keeps hk3 (by simp)
  have hK3 := hK2.trans hk3
  have a3 := a22.keeps hk3 (by simp)
  have hbc := hB.lt
  obtain ⟨c, hcq⟩ : ∃ c, w2.heap.size = c := ⟨_, rfl⟩
  rw [hcq] at hC hs3 hbc ⊢
  clear hB hk3 hK2 a22 hcq
  go_wp2_with fail
  refine (copy_ok hB3).mono ?_
  rintro e w4 ⟨rfl, hD, hk4, hs4⟩
  have hB4 := hB3.keeps hk4 (by simp)
  have hC4 := hC.keeps hk4 (by simp)
  have hK4 := hK3.trans hk4
  have a4 := a3.keeps hk4 (by simp)
  obtain ⟨d, hdq⟩ : ∃ d, w3.heap.size = d := ⟨_, rfl⟩
  rw [hdq] at hD hs3 hs4 ⊢
  clear hB3 hk4 hK3 a3 hdq hC
  go_wp2_with fail
  refine (do_any c n _ _ v2 m2 _ hC4 a4 (fun h0 g hg => by have := L2.out h0 g hg; omega)).mono ?_
  rintro e w5 ⟨rfl, ⟨L', wh', hC5⟩, hk5⟩
  have hB5 := hB4.keeps hk5 (by simp; omega)
  have hD5 := hD.keeps hk5 (by simp; omega)
  have hK5 := hK4.step hk5 (by simp; omega)
  clear hB4 hC4 hK4 a4 hD hk5
  go_wp2_with fail
  refine (settle_any hC5).mono ?_
  rintro e w6 ⟨rfl, hC6, hk6⟩
  have hB6 := hB5.keeps hk6 (by simp; omega)
  have hD6 := hD5.keeps hk6 (by simp; omega)
  have hK6 := hK5.step hk6 (by simp; omega)
  clear hB5 hD5 hK5 hC5 hC6 hk6
  go_wp2_with fail
  have hle := hB6.le
  refine (drain_ok hB6 1000 (by omega)).mono ?_
  rintro e w7 ⟨vx, rfl, hx, hB7, hk7⟩
  have hD7 := hD6.keeps hk7 (by simp; omega)
  have hK7 := hK6.step hk7 (by simp; omega)
  have hT : (L.take 1000).length ≤ maxLen := by rw [List.length_take]; unfold maxLen; omega
  obtain ⟨T, hTq⟩ : ∃ T, L.take 1000 = T := ⟨_, rfl⟩
  rw [hTq] at hx hT
  have HT := Lib.hid hTq
  clear hTq
  obtain ⟨ax, cx, rfl⟩ := hx.shape
  have hd6 := hD6.lt
  clear hB6 hD6 hK6 hk7
  go_wp2_with fail
  refine (drain_ok hD7 1000 (by omega)).mono ?_
  rintro e w8 ⟨vy, rfl, hy, hD8, hk8⟩
  rw [HT.out] at hy
  have hB8 := hB7.keeps hk8 (by simp; omega)
  have hx8 := hx.keeps hk8 (fun y hy => by have := hx.from_ y hy; simp; omega)
  have hK8 := hK7.step hk8 (by simp; omega)
  obtain ⟨ay, cy, rfl⟩ := hy.shape
  clear hB7 hD7 hK7 hx hk8
  go_wp2_with fail
  refine (equal_any (hx8.sl hT) (hy.sl hT)).mono ?_
  rintro e w' ⟨rfl, j, rfl⟩
  rw [decide_eq_true rfl]
  have hB9 := hB8.drewN j
  have hD9 := hD8.drewN j
  have hK9 := hK8.drewN j
  generalize w8.drewN j = w9 at *
  go_wp2_with fail
  refine (over_any hB9).mono ?_
  rintro e w' ⟨rfl, rfl⟩
  go_wp2_with fail
  refine (over_any hD9).mono ?_
  rintro e w' ⟨rfl, rfl⟩
  go_wp2_with fail
  refine (works_ok _).mono ?_
  rintro e w10 ⟨rfl, hk10⟩
  have hK10 := hK9.step (T := []) (Keeps.of_below hk10) (by simp)
  go_wp2_with fail
  go_ret
  exact ⟨rfl, HBQ.out ▸ hK10.below⟩
end Go.Proofs.Ytmojlfkjbnokcaa
