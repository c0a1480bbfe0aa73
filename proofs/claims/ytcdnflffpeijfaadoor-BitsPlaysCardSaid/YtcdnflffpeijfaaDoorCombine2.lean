/- The contract of combine at two sets of one size. Condition: sets that New or Copy made, the same one or apart. -/
import Derived.Test.YtcdnflffpeijfaaDoorCombine
namespace Go.Proofs.YtcdnflffpeijfaaDoor
open Go.RowKit

set_option maxRecDepth 1000000 in
set_option maxHeartbeats 8000000 in
theorem combine_in (f : Nat) (eg : ∀ args w, (callFunc f args).run Tryd.prog w = .ok (.enter f args) w) (g : Nat → Nat → Nat) (hf : ∀ (a b : Nat) (w : World), a < 18446744073709551616 → b < 18446744073709551616 → Calls Tryd.prog f #[.int .u64 a, .int .u64 b] w fun e w' => e = .returned (.int .u64 (g a b : Nat)) ∧ w = w')
    (hgl : ∀ a b, a < 18446744073709551616 → b < 18446744073709551616 → g a b < 18446744073709551616) (op : Bool → Bool → Bool) (hop : ∀ a b j, j < 64 → a < 18446744073709551616 → b < 18446744073709551616 → (g a b).testBit j = op (a.testBit j) (b.testBit j)) (hop0 : op false false = false)
    {b gb c gc n : Nat} {w : World} {ws ts : List Nat} (h : IsSet w b gb n ws) (h' : IsSet w c gc n ts) (hap : (b = c ∧ gb = gc ∧ ws = ts) ∨ gc ≠ gb) :
    Calls Tryd.prog 40 #[.pointer (some ⟨b, 0, none⟩), .pointer (some ⟨c, 0, none⟩), .func (.func f) #[] #[]] w fun e w' => e = .returned (.int .i64 0) ∧ IsSet w' b gb n (combTo g ws ts ws.length) ∧ Keeps [gb] w w' := by
  have lt1 := h.lt
  have lt2 := h'.lt
  have hl1 := h.len
  have hl2 := h'.len
  have hlen : ws.length = ts.length := by omega
  have hn := h.most
  have HWs := Lib.hid h.word
  have HTs := Lib.hid h'.word
  have HOv := Lib.hid (fun (k i : Nat) (hi : n ≤ i) => show has (combTo g ws ts k) i = false by
    rcases Nat.lt_or_ge (i / 64) ws.length with hq | hq
    · rw [has_comb hop h.word (fun k hk => h'.word k (by omega)) k i hq, h.over i hi, h'.over i hi, hop0]
      simp
    · exact has_far (by rw [combTo_len]; exact hq))
  obtain ⟨B, hB⟩ : ∃ B, w.heap.size = B := ⟨_, rfl⟩
  have kA : Keeps [] w (((w.alloc (.cells #[.pointer (some ⟨b, 0, none⟩)] 24)).alloc (.cells #[.pointer (some ⟨c, 0, none⟩)] 24)).alloc (.cells #[.func (.func f) #[] #[]] 66)) := (((Keeps.refl [] w).alloc _).alloc _).alloc _
  have b0 := ((Blk.new w 24 #[.pointer (some ⟨b, 0, none⟩)]).alloc (.cells #[.pointer (some ⟨c, 0, none⟩)] 24)).alloc (.cells #[.func (.func f) #[] #[]] 66)
  have b1 := (Blk.new (w.alloc (.cells #[.pointer (some ⟨b, 0, none⟩)] 24)) 24 #[.pointer (some ⟨c, 0, none⟩)]).alloc (.cells #[.func (.func f) #[] #[]] 66)
  have b2 := Blk.new ((w.alloc (.cells #[.pointer (some ⟨b, 0, none⟩)] 24)).alloc (.cells #[.pointer (some ⟨c, 0, none⟩)] 24)) 66 #[.func (.func f) #[] #[]]
  simp only [World.size_alloc] at b1 b2
  rw [hB] at b0 b1 b2
  have s1 := h.keeps kA (by simp) (by simp)
  have s2 := h'.keeps kA (by simp) (by simp)
  clear h h'
  go_enter Tryd.func40, Tryd.ntmps40
  go_wp2_with fail
  obtain ⟨W0, hW0⟩ : ∃ W0, (((w.alloc (.cells #[.pointer (some ⟨b, 0, none⟩)] 24)).alloc (.cells #[.pointer (some ⟨c, 0, none⟩)] 24)).alloc (.cells #[.func (.func f) #[] #[]] 66)) = W0 := ⟨_, rfl⟩
  rw [hW0] at b0 b1 b2 s1 s2 kA ⊢
  clear hW0
  have q0 := b0.cellAt 0 _ rfl
  have q1 := b1.cellAt 0 _ rfl
  have q2 := b2.cellAt 0 _ rfl
  have z1 := s1.size
  have z2 := s2.size
  have p1 := s1.pos
  have M1 := Lib.hid (made_yes z1 p1)
  have M2 := Lib.hid (made_yes z2 p1)
  refine M1.out.mono ?_
  rintro e w' ⟨rfl, rfl⟩
  go_wp2_with fail
  refine M2.out.mono ?_
  rintro e w' ⟨rfl, rfl⟩
  go_wp2_with fail
  go_quiet (fail)
  obtain ⟨cap1, cur1, r1, g1, hr1⟩ := s1.row
  have x1 := r1.cellAt 1 _ rfl
  have hlt : ws.length ≤ 64 := by omega
  have H1 := Lib.hid s1
  have H2 := Lib.hid s2
  have Hb0 := Lib.hid b0
  have Hb1 := Lib.hid b1
  have Hb2 := Lib.hid b2
  clear s1 s2 b0 b1 b2 r1 g1 hr1
  go_wp2_with fail
  have e54 := enters_of Tryd.func54 (by kernel_rfl) rfl
  have hb2 : b ≠ gb := fun e => H1.out.ne e.symm
  have hB0 : B ≠ gb ∧ B + 1 ≠ gb ∧ B + 1 + 1 ≠ gb := by omega
  have hcgb : c ≠ gb := by
    obtain ⟨_, _, _, g1', _⟩ := H1.out.row
    obtain ⟨_, _, r2', _⟩ := H2.out.row
    exact r2'.ne g1' (by decide)
  go_loopw [34] (fun v wr => ∃ k : Nat, v = .int .i64 k ∧ k ≤ ws.length ∧ IsSet wr b gb n (combTo g ws ts k) ∧ Keeps [gb] W0 wr) (fun v _ => ws.length - (RowKit.intOf v).toNat)
  case atStart => exact ⟨0, rfl, Nat.zero_le _, by rw [combTo_zero]; exact H1.out.drewN _, (Keeps.refl _ _).drewN _⟩
  case round =>
    obtain ⟨k, rfl, hk, hs, hK⟩ := hrel
    by_cases hk2 : k < ws.length
    · have c0 := (Hb0.out.keeps hK (by simp; omega)).cellAt 0 _ rfl
      have c1 := (Hb1.out.keeps hK (by simp; omega)).cellAt 0 _ rfl
      have c2 := (Hb2.out.keeps hK (by simp; omega)).cellAt 0 _ rfl
      obtain ⟨capb, curb, rb, gbk, _⟩ := hs.row
      obtain ⟨capc, curc, rc, gck, _⟩ := H2.out.row
      have c4 := rb.cellAt 1 _ rfl
      have c5 := (rc.keeps hK (by simpa using hcgb)).cellAt 1 _ rfl
      have hw1 := HWs.out k hk2
      have hw2 := HTs.out k (by omega)
      have c6 := hs.cell (k := k) (by rw [combTo_len]; exact hk2)
      rw [combTo_at g ws ts k k hk2, if_neg (by omega)] at c6
      have c7 : wr.cell? ⟨gc, k, none⟩ = some (.int .u64 (ts.getD k 0 : Nat)) := by
        rcases hap with ⟨_, h2, h3⟩ | h2
        · rw [← h2, ← h3]; exact c6
        · have := H2.out.cell (k := k) (by omega)
          rw [hK.cell (p := ⟨gc, k, none⟩) H2.out.lt.2 (by simpa using h2)]
          exact this
      have hE := each_in f eg g hf c2 c0 c1 c4 c5 c6 c7 (gbk.frozen k) (by rw [combTo_len]; exact hk2) (by omega) hw1 hw2
      have hput := hs.put (q := k) (by rw [combTo_len]; exact hk2) (hgl _ _ hw1 hw2) (fun i hi => by rw [← combTo_succ]; exact HOv.out (k + 1) i hi)
      rw [← combTo_succ] at hput
      have hK2 := hK.setCell (p := ⟨gb, k, none⟩) (.inl (by simp)) (.int .u64 (g (ws.getD k 0) (ts.getD k 0) : Nat))
      have HE := Lib.hid hE
      have HP := Lib.hid hput
      have HK := Lib.hid hK2
      clear hE hput hK2 c0 c1 c2 c4 c5 c6 c7 hs hK rb gbk rc gck
      go_wp2_with fail
      refine HE.out.mono ?_
      rintro e w' ⟨rfl, rfl⟩
      go_wp2_with fail
      go_roundw
      case rel => exact ⟨k + 1, by go_num, by omega, HP.out.drew, HK.out.drew⟩
      case measure => simp [RowKit.intOf]; omega
    · obtain rfl : k = ws.length := by omega
      go_wp2_with fail
      go_ret
      exact ⟨rfl, hs, (kA.mono (by simp)).trans hK⟩
end Go.Proofs.YtcdnflffpeijfaaDoor
