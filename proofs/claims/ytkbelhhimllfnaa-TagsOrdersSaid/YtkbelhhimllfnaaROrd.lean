/- The contract of the reference's Order; TagsOrders: for every input the call returns true. No condition on the law. -/
import Derived.Test.YtkbelhhimllfnaaRCheck
import Derived.Test.YtkbelhhimllfnaaRestP
namespace Go.Proofs.Ytkbelhhimllfnaa
open Go.RowKit

theorem drop_getD {rs : List Nat} {k : Nat} (h : k < rs.length) : rs.drop k = rs.getD k 0 :: rs.drop (k + 1) := by
  rw [List.drop_eq_getElem_cons h]
  simp [List.getD, List.getElem?_eq_getElem h]

set_option maxRecDepth 1000000 in
set_option maxHeartbeats 16000000 in
theorem ROrder_tags (s t : ByteArray) (rs ts : List Nat) (hr : TagOf rs s.data.toList) (ht : TagOf ts t.data.toList) (w : World) : Calls Try.prog 27 #[.string s, .string t] w fun e w' => e = .returned (.int .i64 (cmpN rs ts)) ∧ Keeps [] w w' := by
  have ls := hr.len
  have lt := ht.len
  rw [← Lib.size_eq] at ls lt
  have hc1 := RCheck_ok s (by omega)
  have hc2 := RCheck_ok t (by omega)
  rw [tagErr_zero.2 hr.isTag] at hc1
  rw [tagErr_zero.2 ht.isTag] at hc2
  have hR1 := RRunes_ok s (by omega)
  have hR2 := RRunes_ok t (by omega)
  rw [hr.runes] at hR1
  rw [ht.runes] at hR2
  have R1 := Lib.hid (fun w => (show Calls Try.prog 36 #[.string s] w fun e w' => ∃ v, e = .returned (.tuple #[v, .bool true]) ∧ OwnI w' w.heap.size v (ints rs) ∧ Keeps [] w w' from hR1 w))
  have R2 := Lib.hid (fun w => (show Calls Try.prog 36 #[.string t] w fun e w' => ∃ v, e = .returned (.tuple #[v, .bool true]) ∧ OwnI w' w.heap.size v (ints ts) ∧ Keeps [] w w' from hR2 w))
  have C1 := Lib.hid hc1
  have C2 := Lib.hid hc2
  have m1 := hr.most
  have m2 := ht.most
  have n1 := hr.pos
  have n2 := ht.pos
  clear hc1 hc2 hR1 hR2 hr ht
  obtain ⟨E, hE⟩ : ∃ E, cmpN rs ts = E := ⟨_, rfl⟩
  have HE := Lib.hid hE
  rw [hE]
  clear hE
  go_enter Try.func27, Try.ntmps27
  go_wp2_with fail
  refine (C1.out _).mono ?_
  rintro e W1 ⟨rfl, k1⟩
  go_wp2_with fail
  refine (C2.out _).mono ?_
  rintro e W2 ⟨rfl, k2⟩
  go_wp2_with fail
  refine (R1.out _).mono ?_
  rintro e W3 ⟨v1, rfl, hv1, k3⟩
  go_wp2_with fail
  refine (R2.out _).mono ?_
  rintro e W4 ⟨v2, rfl, hv2, k4⟩
  have k := ((k1.trans k2).trans k3).trans k4
  obtain ⟨b1, o1, c1, rfl, hb1, hcell1⟩ := SlI.rune ((hv1.keeps k4 (by simp)).sl (by rw [ints_len]; unfold maxLen; omega)) n1
  obtain ⟨b2, o2, c2, rfl, hb2, hcell2⟩ := SlI.rune (hv2.sl (by rw [ints_len]; unfold maxLen; omega)) n2
  clear hv1 hv2 k1 k2 k3 k4 C1 C2 R1 R2
  go_wp2_with fail
  go_loopw [11] (fun x wr => ∃ i : Nat, x = .int .i64 i ∧ i ≤ rs.length ∧ i ≤ ts.length ∧ (∀ j, j < i → rs.getD j 0 = ts.getD j 0) ∧ ∃ n, wr = W4.drewN n) (fun x _ => rs.length - (RowKit.intOf x).toNat)
  case atStart => exact ⟨0, rfl, Nat.zero_le _, Nat.zero_le _, by simp, 0, rfl⟩
  case round =>
    obtain ⟨i, rfl, h1, h2, hsame, n, rfl⟩ := hrel
    have HAt := Lib.hid (cmpN_at rs ts i hsame h1 h2)
    have HSm := Lib.hid hsame
    clear hsame
    have hkn : Keeps [] w (W4.drewN n) := k.drewN n
    by_cases i1 : i < rs.length
    · by_cases i2 : i < ts.length
      · have q1 : (W4.drewN n).cell? ⟨b1, o1 + i, none⟩ = _ := hcell1 i i1
        have q2 : (W4.drewN n).cell? ⟨b2, o2 + i, none⟩ = _ := hcell2 i i2
        have D1 := Lib.hid (drop_getD i1)
        have D2 := Lib.hid (drop_getD i2)
        have i1' : (i : Int) < rs.length := by omega
        have i2' : (i : Int) < ts.length := by omega
        obtain ⟨x, hx⟩ : ∃ x, rs.getD i 0 = x := ⟨_, rfl⟩
        obtain ⟨y, hy⟩ : ∃ y, ts.getD i 0 = y := ⟨_, rfl⟩
        rw [hx] at q1 D1
        rw [hy] at q2 D2
        have HX := Lib.hid hx
        have HY := Lib.hid hy
        clear hx hy
        have HW := Lib.hid (show (W4.drewN n) = (W4.drewN n) from rfl)
        obtain ⟨W5, hW5⟩ : ∃ W5, W4.drewN n = W5 := ⟨_, rfl⟩
        rw [hW5] at q1 q2 hkn ⊢
        have H5 := Lib.hid hW5
        clear hW5 HW hcell1 hcell2
        rcases Nat.lt_trichotomy x y with hlt | heq | hgt
        · have hE1 : E = -1 := by rw [← HE.out, HAt.out, D1.out, D2.out, cmpN, if_pos hlt]
          have d1 : decide ((x : Int) < y) = true := decide_eq_true (by omega)
          have HE1 := Lib.hid hE1
          clear hE1
          go_wp2_with fail
          go_quiet (fail)
          go_wp2_with fail
          go_ret
          rw [HE1.out]
          exact ⟨rfl, hkn.drewN _⟩
        · have d1 : decide ((x : Int) < y) = false := decide_eq_false (by omega)
          have d2 : decide ((y : Int) < x) = false := decide_eq_false (by omega)
          go_wp2_with fail
          go_quiet (fail)
          go_wp2_with fail
          have hkn2 : Keeps [] w (W5.drewN nq) := hkn.drewN _
          have q1' : (W5.drewN nq).cell? ⟨b1, o1 + i, none⟩ = _ := q1
          have q2' : (W5.drewN nq).cell? ⟨b2, o2 + i, none⟩ = _ := q2
          obtain ⟨W6, hW6⟩ : ∃ W6, W5.drewN nq = W6 := ⟨_, rfl⟩
          rw [hW6] at q1' q2' ⊢
          have H6 := Lib.hid hW6
          clear hW6 q1 q2
          go_quiet (fail)
          go_wp2_with fail
          go_roundw
          case rel =>
            refine ⟨i + 1, by go_num, by omega, by omega, fun j hj => ?_, ?_⟩
            · rcases Nat.lt_or_ge j i with h | h
              · exact HSm.out j h
              · obtain rfl : j = i := by omega
                rw [HX.out, HY.out, heq]
            · rw [← H6.out, ← H5.out]
              exact ⟨_, by rw [World.drewN_drewN, World.drewN_drewN]⟩
          case measure => simp [RowKit.intOf]; omega
        · have hE1 : E = 1 := by rw [← HE.out, HAt.out, D1.out, D2.out, cmpN, if_neg (by omega), if_neg (by omega)]
          have d1 : decide ((x : Int) < y) = false := decide_eq_false (by omega)
          have d2 : decide ((y : Int) < x) = true := decide_eq_true (by omega)
          have HE1 := Lib.hid hE1
          clear hE1
          go_wp2_with fail
          go_quiet (fail)
          go_wp2_with fail
          have hkn2 : Keeps [] w (W5.drewN nq) := hkn.drewN _
          have q1' : (W5.drewN nq).cell? ⟨b1, o1 + i, none⟩ = _ := q1
          have q2' : (W5.drewN nq).cell? ⟨b2, o2 + i, none⟩ = _ := q2
          generalize W5.drewN nq = W6 at *
          go_quiet (fail)
          go_wp2_with fail
          go_ret
          rw [HE1.out]
          exact ⟨rfl, hkn2.drewN _⟩
      · have hit : i = ts.length := by omega
        have hE1 : E = 1 := by
          rw [← HE.out, HAt.out, show ts.drop i = [] from List.drop_eq_nil_of_le (by omega), drop_getD i1]
          rfl
        have HE1 := Lib.hid hE1
        have i2' : decide ((i : Int) < ts.length) = false := decide_eq_false (by omega)
        clear hE1 hcell1 hcell2
        go_wp2_with fail
        go_ret
        rw [HE1.out]
        exact ⟨rfl, hkn⟩
    · have hir : i = rs.length := by omega
      rcases Nat.lt_or_ge rs.length ts.length with hlt | hge
      · have hE1 : E = -1 := by
          rw [← HE.out, HAt.out, show rs.drop i = [] from List.drop_eq_nil_of_le (by omega), drop_getD (rs := ts) (k := i) (by omega)]
          rfl
        have HE1 := Lib.hid hE1
        have i1' : decide ((i : Int) < rs.length) = false := decide_eq_false (by omega)
        clear hE1 hcell1 hcell2
        go_wp2_with fail
        go_ret
        rw [HE1.out]
        exact ⟨rfl, hkn⟩
      · have hE1 : E = 0 := by
          rw [← HE.out, HAt.out, show rs.drop i = [] from List.drop_eq_nil_of_le (by omega), show ts.drop i = [] from List.drop_eq_nil_of_le (by omega)]
          rfl
        have HE1 := Lib.hid hE1
        have hlen : rs.length = ts.length := by omega
        have i1' : decide ((i : Int) < rs.length) = false := decide_eq_false (by omega)
        clear hE1 hcell1 hcell2
        go_wp2_with fail
        go_ret
        rw [HE1.out]
        exact ⟨rfl, hkn⟩

set_option maxRecDepth 1000000 in
theorem ROrder_no (s t : ByteArray) (hs : s.size ≤ 500) (ht : t.size ≤ 500) (h : isTag s.data.toList = false ∨ isTag t.data.toList = false) (w : World) : Calls Try.prog 27 #[.string s, .string t] w fun e w' => e = .returned (.int .i64 (orderB s.data.toList t.data.toList)) ∧ Keeps [] w w' := by
  have HS := RCheck_ok s (by omega)
  have HT := RCheck_ok t (by omega)
  unfold orderB
  unfold tagErr at HS HT
  cases hx : isTag s.data.toList <;> cases hy : isTag t.data.toList
  · rw [hx] at HS
    rw [hy] at HT
    simp only [if_true, if_false, Bool.false_eq_true] at HS HT ⊢
    have HS2 := Lib.hid HS
    have HT2 := Lib.hid HT
    clear HS HT h hx hy
    go_enter Try.func27, Try.ntmps27
    go_wp2_with fail
    refine (HS2.out _).mono ?_
    rintro e w1 ⟨rfl, k1⟩
    go_wp2_with fail
    refine (HT2.out _).mono ?_
    rintro e w2 ⟨rfl, k2⟩
    go_wp2_with fail
    go_ret
    exact ⟨rfl, k1.trans k2⟩
  · rw [hx] at HS
    rw [hy] at HT
    simp only [if_true, if_false, Bool.false_eq_true] at HS HT ⊢
    have HS2 := Lib.hid HS
    have HT2 := Lib.hid HT
    clear HS HT h hx hy
    go_enter Try.func27, Try.ntmps27
    go_wp2_with fail
    refine (HS2.out _).mono ?_
    rintro e w1 ⟨rfl, k1⟩
    go_wp2_with fail
    refine (HT2.out _).mono ?_
    rintro e w2 ⟨rfl, k2⟩
    go_wp2_with fail
    go_ret
    exact ⟨rfl, k1.trans k2⟩
  · rw [hx] at HS
    rw [hy] at HT
    simp only [if_true, if_false, Bool.false_eq_true] at HS HT ⊢
    have HS2 := Lib.hid HS
    have HT2 := Lib.hid HT
    clear HS HT h hx hy
    go_enter Try.func27, Try.ntmps27
    go_wp2_with fail
    refine (HS2.out _).mono ?_
    rintro e w1 ⟨rfl, k1⟩
    go_wp2_with fail
    refine (HT2.out _).mono ?_
    rintro e w2 ⟨rfl, k2⟩
    go_wp2_with fail
    go_ret
    exact ⟨rfl, k1.trans k2⟩
  · rw [hx, hy] at h
    simp at h

theorem ROrder_any (s t : ByteArray) (hs : s.size ≤ 500) (ht : t.size ≤ 500) (w : World) : Calls Try.prog 27 #[.string s, .string t] w fun e w' => e = .returned (.int .i64 (orderB s.data.toList t.data.toList)) ∧ Keeps [] w w' := by
  cases hx : isTag s.data.toList with
  | false => exact ROrder_no s t hs ht (.inl hx) w
  | true =>
    cases hy : isTag t.data.toList with
    | false => exact ROrder_no s t hs ht (.inr hy) w
    | true =>
      obtain ⟨rs, hr⟩ := isTag_iff.1 hx
      obtain ⟨ts, hq⟩ := isTag_iff.1 hy
      have := ROrder_tags s t rs ts hr hq w
      rw [cmpN_encs rs ts hr.sc hq.sc, ← hr.text, ← hq.text, ← cmpB_eq] at this
      unfold orderB
      rw [hx, hy]
      exact this

theorem orderB_self (l : List UInt8) : orderB l l = 0 := by
  have := orderB_turn l l
  omega

set_option maxRecDepth 1000000 in
set_option maxHeartbeats 8000000 in
theorem orders_walk (s t : ByteArray) (w : World) : Calls Try.prog 8 #[.string s, .string t] w fun e w' => e = .returned (.bool true) ∧ Below w.heap.size w w' := by
  by_cases hlong : 500 < s.size
  · go_enter Try.func8, Try.ntmps8
    go_wp2_with fail
    refine (works_ok _).mono ?_
    rintro e W2 ⟨rfl, k2⟩
    go_wp2_with fail
    go_ret
    exact ⟨rfl, k2.below⟩
  by_cases hlong2 : 500 < t.size
  · go_enter Try.func8, Try.ntmps8
    go_wp2_with fail
    refine (works_ok _).mono ?_
    rintro e W2 ⟨rfl, k2⟩
    go_wp2_with fail
    go_ret
    exact ⟨rfl, k2.below⟩
  have h1 := Order_ok s t
  have h2 := ROrder_any s t (by omega) (by omega)
  have h3 := Order_ok s s
  rw [orderB_self] at h3
  generalize orderB s.data.toList t.data.toList = o at *
  have H1 := Lib.hid h1
  have H2 := Lib.hid h2
  have H3 := Lib.hid h3
  clear h1 h2 h3
  go_enter Try.func8, Try.ntmps8
  go_wp2_with fail
  refine (H1.out _).mono ?_
  rintro e W1 ⟨rfl, k1⟩
  go_wp2_with fail
  refine (H2.out _).mono ?_
  rintro e W2 ⟨rfl, k2⟩
  go_wp2_with fail
  refine (H3.out _).mono ?_
  rintro e W3 ⟨rfl, k3⟩
  go_wp2_with fail
  refine (works_ok _).mono ?_
  rintro e W4 ⟨rfl, k4⟩
  go_wp2_with fail
  go_ret
  exact ⟨rfl, (((k1.trans k2).trans k3).trans k4).below⟩
end Go.Proofs.Ytkbelhhimllfnaa
