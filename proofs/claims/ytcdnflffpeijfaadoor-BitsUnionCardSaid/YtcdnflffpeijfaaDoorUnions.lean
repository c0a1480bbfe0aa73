/- BitsUnion: for every input the call returns true, and nothing that was there has changed. Condition: the table of trailing zeros lies in its block. -/
import Derived.Test.YtcdnflffpeijfaaDoorWorks
import Derived.Test.YtcdnflffpeijfaaDoorRowB
namespace Go.Proofs.YtcdnflffpeijfaaDoor
open Go.RowKit

theorem ArgI.keep0 {k : IntKind} {w w' : World} {v : Value} {zs : List Int} (h : ArgI k w v zs) (hk : Keeps [] w w') : ArgI k w' v zs := by
  obtain ⟨hwf, h | ⟨b, off, cap, rfl, h1, h2, h3, h4, h5⟩⟩ := h
  · exact ⟨hwf, .inl h⟩
  · exact ⟨hwf, .inr ⟨b, off, cap, rfl, h1, h2, Nat.lt_of_lt_of_le h3 hk.size, h4, fun i hi => (hk.cell (p := ⟨b, off + i, none⟩) h3 (by simp)).trans (h5 i hi)⟩⟩
theorem picks_noneP' (n : Nat) : picks n noneP = [] := by unfold picks noneP; simp
def andP (p q : Nat → Bool) : Nat → Bool := fun j => p j && q j
/-- What is changed up to a number. -/
def upTo (k : Nat) (p f : Nat → Bool) : Nat → Bool := fun j => if j < k then f j else p j
theorem upTo_zero (p f : Nat → Bool) : upTo 0 p f = p := by funext j; unfold upTo; simp
theorem upTo_at (k : Nat) (p f : Nat → Bool) : upTo k p f k = p k := by unfold upTo; simp
theorem upTo_succ (k : Nat) (p f : Nat → Bool) (i : Nat) : upTo (k + 1) p f i = if i = k then f k else upTo k p f i := by
  unfold upTo
  by_cases e : i = k
  · subst e; simp
  · rw [if_neg e]
    by_cases h : i < k
    · rw [if_pos h, if_pos (by omega)]
    · rw [if_neg h, if_neg (by omega)]
theorem upTo_all {n : Nat} (p f : Nat → Bool) (i : Nat) (h : i < n) : upTo n p f i = f i := by unfold upTo; rw [if_pos h]
theorem count_union (n : Nat) (p q : Nat → Bool) : (picks n (orP p q)).length + (picks n (andP q p)).length = (picks n p).length + (picks n q).length := by
  induction n with
  | zero => rfl
  | succ n ih =>
    rw [picks_succ, picks_succ, picks_succ, picks_succ]
    unfold orP andP at ih ⊢
    cases p n <;> cases q n <;> simp <;> omega
theorem count_minus (n : Nat) (p q : Nat → Bool) : (picks n (minusP p q)).length + (picks n (andP q p)).length = (picks n p).length := by
  induction n with
  | zero => rfl
  | succ n ih =>
    rw [picks_succ, picks_succ, picks_succ]
    unfold minusP andP at ih ⊢
    cases p n <;> cases q n <;> simp <;> omega
theorem minus_or (p q : Nat → Bool) : minusP (orP p q) q = minusP p q := by
  funext j
  unfold minusP orP
  cases p j <;> cases q j <;> rfl

set_option maxRecDepth 1000000 in
set_option maxHeartbeats 16000000 in
theorem unions_walk (s : Nat) (hs : s ≤ 65535) {v u : Value} {ys zs : List Int} {w : World} (hv : ArgI .u16 w v ys) (hu : ArgI .u16 w u zs) (hT : Table w) :
    Calls Tryd.prog 7 #[.int .u16 s, v, u] w fun e w' => e = .returned (.bool true) ∧ Below w.heap.size w w' := by
  have hpos := hT.pos
  obtain ⟨n, hn⟩ : ∃ n, 1 + s % 4096 = n := ⟨_, rfl⟩
  have h1 : 1 ≤ n := by omega
  have h2 : n ≤ 4096 := by omega
  have E1 := Lib.hid (show (1 : Int) + (s : Int) % 4096 = (n : Int) by omega)
  have HM := Lib.hid (made_in h1 h2 hv)
  have HU := Lib.hid hu
  have HT := Lib.hid hT
  clear hT hv hn hu
  go_enter Tryd.func7, Tryd.ntmps7
  go_wp2_with fail
  rw [E1.out]
  refine HM.out.mono ?_
  rintro e w1 ⟨b, gb, ga, p, rfl, hs, ha, hK, hb, hgb, hga⟩
  clear HM E1
  go_wp2_with fail
  refine (made_in h1 h2 (HU.out.keep0 hK)).mono ?_
  rintro e w2 ⟨c, gc, gr, q, rfl, ht, hr, k2, hc, hgc, hgr⟩
  have ls := hs.lt
  have la := ha.lt
  have K2 := hK.trans k2
  have hs2 := hs.keep0 k2
  have ha2 := ha.keeps k2 (by simp)
  have z1 := hK.size
  have z2 := k2.size
  clear hs ha hK k2 HU
  go_wp2_with fail
  refine (Copy_p hs2).mono ?_
  rintro e w3 ⟨d, gd, rfl, hd, k3, hdd, hgd⟩
  have lt2 := ht.lt
  have lr := hr.lt
  have K3 := K2.trans k3
  have hs3 := hs2.keep0 k3
  have ha3 := ha2.keeps k3 (by simp)
  have ht3 := ht.keep0 k3
  have hr3 := hr.keeps k3 (by simp)
  have z3 := k3.size
  clear hs2 ha2 ht hr K2 k3
  go_wp2_with fail
  refine (Copy_p hs3).mono ?_
  rintro e w4 ⟨l, gl, rfl, hl, k4, hll, hgl⟩
  have ld := hd.lt
  have K4 := K3.trans k4
  have hs4 := hs3.keep0 k4
  have ha4 := ha3.keeps k4 (by simp)
  have ht4 := ht3.keep0 k4
  have hr4 := hr3.keeps k4 (by simp)
  have hd4 := hd.keep0 k4
  have z4 := k4.size
  clear hs3 ha3 ht3 hr3 hd K3 k4
  go_wp2_with fail
  refine (Union_p hd4 ht4 (by omega)).mono ?_
  rintro e w5 ⟨rfl, hd5, k5⟩
  have ll := hl.lt
  have K5 := K4.step k5 (by simp; omega)
  have hs5 := hs4.keeps k5 (by simp; omega) (by simp; omega)
  have ha5 := ha4.keeps k5 (by simp; omega)
  have ht5 := ht4.keeps k5 (by simp; omega) (by simp; omega)
  have hr5 := hr4.keeps k5 (by simp; omega)
  have hl5 := hl.keeps k5 (by simp; omega) (by simp; omega)
  have z5 := k5.size
  clear hs4 ha4 ht4 hr4 hd4 hl K4 k5
  go_wp2_with fail
  refine (Minus_p hl5 ht5 (by omega)).mono ?_
  rintro e w6 ⟨rfl, hl6, k6⟩
  have K6 := K5.step k6 (by simp; omega)
  have hs6 := hs5.keeps k6 (by simp; omega) (by simp; omega)
  have ha6 := ha5.keeps k6 (by simp; omega)
  have ht6 := ht5.keeps k6 (by simp; omega) (by simp; omega)
  have hr6 := hr5.keeps k6 (by simp; omega)
  have hd6 := hd5.keeps k6 (by simp; omega) (by simp; omega)
  have z6 := k6.size
  clear hs5 ha5 ht5 hr5 hd5 hl5 K5 k6
  go_wp2_with fail
  refine (CloneRow ha6 h1 h2).mono ?_
  rintro e w7 ⟨gB, cB, rfl, hB, k7, hgB⟩
  have K7 := K6.trans k7
  have hs7 := hs6.keep0 k7
  have ha7 := ha6.keeps k7 (by simp)
  have ht7 := ht6.keep0 k7
  have hr7 := hr6.keeps k7 (by simp)
  have hd7 := hd6.keep0 k7
  have hl7 := hl6.keep0 k7
  have z7 := k7.size
  clear hs6 ha6 ht6 hr6 hd6 hl6 K6 k7
  go_wp2_with fail
  refine (CloneRow ha7 h1 h2).mono ?_
  rintro e w8 ⟨gL, cL, rfl, hL, k8, hgL⟩
  have lB := hB.lt
  have K8 := K7.trans k8
  have hs8 := hs7.keep0 k8
  have ha8 := ha7.keeps k8 (by simp)
  have ht8 := ht7.keep0 k8
  have hr8 := hr7.keeps k8 (by simp)
  have hd8 := hd7.keep0 k8
  have hl8 := hl7.keep0 k8
  have hB8 := hB.keeps k8 (by simp)
  have z8 := k8.size
  have lL := hL.lt
  clear hs7 ha7 ht7 hr7 hd7 hl7 hB K7 k8
  have HS := Lib.hid hs8
  have HA := Lib.hid ha8
  have HTt := Lib.hid ht8
  have HR := Lib.hid hr8
  have HD := Lib.hid hd8
  have HL := Lib.hid hl8
  have HK := Lib.hid K8
  have HB0 := Lib.hid hB8
  have HL0 := Lib.hid hL
  clear hs8 ha8 ht8 hr8 hd8 hl8 K8 hB8 hL
  have hBL : gL ≠ gB := by omega
  have hBL' : gB ≠ gL := by omega
  have n1 : ga ≠ gB := by omega
  have n2 : ga ≠ gL := by omega
  go_wp2_with fail
  go_loopw [18, 73] (fun cm i wr => ∃ k : Nat, i = .int .i64 k ∧ k ≤ n ∧ cm = .int .i64 ((picks k (andP q p)).length : Nat) ∧ RowB wr gB n cB (upTo k p (orP p q)) ∧ RowB wr gL n cL (upTo k p (minusP p q)) ∧ Keeps [gB, gL] w8 wr) (fun _ i _ => n - (intOf i).toNat)
  case atStart => exact ⟨0, rfl, Nat.zero_le _, rfl, by rw [upTo_zero]; exact HB0.out, by rw [upTo_zero]; exact HL0.out, Keeps.refl _ _⟩
  case round =>
    obtain ⟨k, rfl, hk, rfl, hB, hL, hKr⟩ := hrel
    by_cases hkn : k < n
    · have ck := (HR.out.keeps hKr (by simp; omega)).cellAt k _ (boolRow_at n q hkn)
      have cb := hB.cellAt hkn
      have cl := hL.cellAt hkn
      have ca := (HA.out.keeps hKr (by simp; omega)).cellAt k _ (boolRow_at n p hkn)
      rw [upTo_at] at cb cl
      have fb := hB.frozen k
      have fl := hL.frozen k
      have hpl := picks_len_le k (andP q p)
      have hps := picks_succ k (andP q p)
      have hB2 : RowB (wr.setCell ⟨gB, k, none⟩ (.bool (orP p q k))) gB n cB (upTo (k + 1) p (orP p q)) := hB.put (fun i _ => upTo_succ k p _ i) hkn
      have hB3 : RowB ((wr.setCell ⟨gB, k, none⟩ (.bool (orP p q k))).setCell ⟨gL, k, none⟩ (.bool (minusP p q k))) gB n cB (upTo (k + 1) p (orP p q)) := hB2.far hBL' _
      have hL2 := (hL.far (a := ⟨gB, k, none⟩) hBL (.bool (orP p q k)))
      have hL3 : RowB ((wr.setCell ⟨gB, k, none⟩ (.bool (orP p q k))).setCell ⟨gL, k, none⟩ (.bool (minusP p q k))) gL n cL (upTo (k + 1) p (minusP p q)) := hL2.put (fun i _ => upTo_succ k p _ i) hkn
      have hK3 : Keeps [gB, gL] w8 ((wr.setCell ⟨gB, k, none⟩ (.bool (orP p q k))).setCell ⟨gL, k, none⟩ (.bool (minusP p q k))) := (hKr.setCell (.inl (by simp)) _).setCell (.inl (by simp)) _
      clear hB hL hKr hB2 hL2
      have eo : orP p q k = (p k || q k) := rfl
      have em : minusP p q k = (p k && !q k) := rfl
      have ea : andP q p k = (q k && p k) := rfl
      rw [ea] at hps
      rw [eo, em] at hB3 hL3 hK3
      clear eo em ea
      generalize p k = x at *
      generalize q k = y at *
      have HB3 := Lib.hid hB3
      have HL3 := Lib.hid hL3
      have HK3 := Lib.hid hK3
      have HPS := Lib.hid hps
      clear hB3 hL3 hK3 hps
      cases x <;> cases y
      all_goals
        go_wp2_with fail
        go_roundw
        case rel => exact ⟨k + 1, by go_num, by omega, by rw [HPS.out]; simp, HB3.out, HL3.out, HK3.out⟩
        case measure => simp [intOf]; omega
    · obtain rfl : k = n := by omega
      have hBn := hB.cong (fun i hi => upTo_all p (orP p q) i hi)
      have hLn := hL.cong (fun i hi => upTo_all p (minusP p q) i hi)
      have K := HK.out.step hKr (by simp; omega)
      have hs := HS.out.keeps hKr (by simp; omega) (by simp; omega)
      have ht := HTt.out.keeps hKr (by simp; omega) (by simp; omega)
      have hd := HD.out.keeps hKr (by simp; omega) (by simp; omega)
      have hl := HL.out.keeps hKr (by simp; omega) (by simp; omega)
      have ha := HA.out.keeps hKr (by simp; omega)
      have hr := HR.out.keeps hKr (by simp; omega)
      have zr := hKr.size
      clear hB hL hKr HK HS HTt HD HL HA HR HB0 HL0 hBL hBL' n1 n2
      have hT0 := HT.out.keeps K hpos (by simp)
      have hcU := Lib.hid (count_union k p q)
      have hcM := Lib.hid (count_minus k p q)
      have hb1 := picks_len_le k (orP p q)
      have hb2 := picks_len_le k (minusP p q)
      have hb3 := picks_len_le k (andP q p)
      have hb4 := picks_len_le k p
      have hb5 := picks_len_le k q
      have hml : ∀ f, (asInts (picks k f)).length ≤ maxLen := fun f => by rw [asInts_len]; have := picks_len_le k f; unfold maxLen; omega
      have HML := Lib.hid hml
      clear hml
      go_wp2_with fail
      refine (All_p hd hT0).mono ?_
      rintro e x1 ⟨v1, rfl, hv1, j1⟩
      have hl1 := Lib.hid (hv1.sl (HML.out _))
      have hB1 := hBn.keeps j1 (by simp)
      clear hv1
      go_wp2_with fail
      refine (listed_cap hB1 h2).mono ?_
      rintro e x2 ⟨v2, rfl, hv2, j2⟩
      have hl2 := Lib.hid (hv2.sl (HML.out _))
      have hl1' := Lib.hid (hl1.out.keeps j2 (by simp))
      have J2 := j1.trans j2
      clear hv2 hl1 hB1 j1 j2 hBn
      go_wp2_with fail
      refine (Equal_e hl1'.out hl2.out rfl).mono ?_
      rintro e y ⟨rfl, i3, rfl⟩
      have J3 := J2.drewN i3
      clear J2 hl1' hl2
      generalize x2.drewN i3 = x3 at *
      have hl3 := hl.keep0 J3
      have hL3 := hLn.keeps J3 (by simp)
      have hT3 := HT.out.keeps (K.trans J3) hpos (by simp)
      clear hl hLn
      go_wp2_with fail
      refine (All_p hl3 hT3).mono ?_
      rintro e x4 ⟨v4, rfl, hv4, j4⟩
      have hl4 := Lib.hid (hv4.sl (HML.out _))
      have hL4 := hL3.keeps j4 (by simp)
      have J4 := J3.trans j4
      have hl4s := hl3.keep0 j4
      clear hv4 hl3 hL3 J3
      go_wp2_with fail
      refine (listed_cap hL4 h2).mono ?_
      rintro e x5 ⟨v5, rfl, hv5, j5⟩
      have hl5 := Lib.hid (hv5.sl (HML.out _))
      have hl4' := Lib.hid (hl4.out.keeps j5 (by simp))
      have J5 := J4.trans j5
      have hl5s := hl4s.keep0 j5
      clear hv5 hl4 hL4 j4 j5 J4 hl4s
      go_wp2_with fail
      refine (Equal_e hl4'.out hl5.out rfl).mono ?_
      rintro e y ⟨rfl, i6, rfl⟩
      have J6 := J5.drewN i6
      have hl6 := hl5s.drewN i6
      clear J5 hl4' hl5 hl5s
      generalize x5.drewN i6 = x6 at *
      have K6 := K.trans J6
      have hs6 := hs.keep0 J6
      have ht6 := ht.keep0 J6
      have hd6 := hd.keep0 J6
      have ha6 := ha.keeps J6 (by simp)
      have hr6 := hr.keeps J6 (by simp)
      have zJ := J6.size
      clear hs ht hd ha hr J6 K hT0 hT3
      have C1 := Lib.hid (Count_p hd6)
      have C2 := Lib.hid (Count_p hs6)
      have C3 := Lib.hid (Count_p ht6)
      have C4 := Lib.hid (Count_p hl6)
      generalize hA1 : (picks k (orP p q)).length = A1 at *
      generalize hA2 : (picks k (minusP p q)).length = A2 at *
      generalize hA3 : (picks k (andP q p)).length = A3 at *
      generalize hA4 : (picks k p).length = A4 at *
      generalize hA5 : (picks k q).length = A5 at *
      have e1 : ((A1 : Int) + A3 != (A4 : Int) + A5) = false := by have := hcU.out; simp; omega
      have e2 : ((A2 : Int) + A3 != (A4 : Int)) = false := by have := hcM.out; simp; omega
      have e1' : (A1 : Int) + A3 = (A4 : Int) + A5 := by have := hcU.out; omega
      have e2' : (A2 : Int) + A3 = (A4 : Int) := by have := hcM.out; omega
      have E1' := Lib.hid e1'
      have E2' := Lib.hid e2'
      clear hA1 hA2 hA3 hA4 hA5 e1' e2'
      go_wp2_with fail
      refine C1.out.mono ?_
      rintro e y ⟨rfl, rfl⟩
      go_wp2_with fail
      refine C2.out.mono ?_
      rintro e y ⟨rfl, rfl⟩
      go_wp2_with fail
      refine C3.out.mono ?_
      rintro e y ⟨rfl, rfl⟩
      go_wp2_with fail
      refine C4.out.mono ?_
      rintro e y ⟨rfl, rfl⟩
      go_wp2_with fail
      refine C2.out.mono ?_
      rintro e y ⟨rfl, rfl⟩
      go_wp2_with fail
      clear C1 C2 C3 C4 e1 e2 hb1 hb2 hb3 hb4 hb5 hcU hcM E1' E2'
      refine (All_p ht6 (HT.out.keeps K6 hpos (by simp))).mono ?_
      rintro e x7 ⟨v7, rfl, hv7, j7⟩
      have hl7 := Lib.hid (hv7.sl (HML.out _))
      have hr7 := hr6.keeps j7 (by simp)
      clear hv7
      go_wp2_with fail
      refine (listed_in hr7 h2).mono ?_
      rintro e x8 ⟨v8, rfl, hv8, j8⟩
      have hl8 := Lib.hid (hv8.sl (HML.out _))
      have hl7' := Lib.hid (hl7.out.keeps j8 (by simp))
      have J8 := j7.trans j8
      clear hv8 hl7 hr7 j7 j8 hr6
      go_wp2_with fail
      refine (Equal_e hl7'.out hl8.out rfl).mono ?_
      rintro e y ⟨rfl, i9, rfl⟩
      have J9 := J8.drewN i9
      clear J8 hl7' hl8
      generalize x8.drewN i9 = x9 at *
      have K9 := K6.trans J9
      have hs9 := hs6.keep0 J9
      have ht9 := ht6.keep0 J9
      have hd9 := hd6.keep0 J9
      have hl9 := hl6.keep0 J9
      have ha9 := ha6.keeps J9 (by simp)
      clear hs6 ht6 hd6 hl6 ha6 J9 K6
      go_wp2_with fail
      refine (All_p hs9 (HT.out.keeps K9 hpos (by simp))).mono ?_
      rintro e x10 ⟨v10, rfl, hv10, j10⟩
      have hl10 := Lib.hid (hv10.sl (HML.out _))
      have ha10 := ha9.keeps j10 (by simp)
      clear hv10
      go_wp2_with fail
      refine (listed_in ha10 h2).mono ?_
      rintro e x11 ⟨v11, rfl, hv11, j11⟩
      have hl11 := Lib.hid (hv11.sl (HML.out _))
      have hl10' := Lib.hid (hl10.out.keeps j11 (by simp))
      have J11 := j10.trans j11
      clear hv11 hl10 ha10 j10 j11
      go_wp2_with fail
      refine (Equal_e hl10'.out hl11.out rfl).mono ?_
      rintro e y ⟨rfl, i12, rfl⟩
      have J12 := J11.drewN i12
      clear J11 hl10' hl11
      generalize x11.drewN i12 = x12 at *
      have K12 := K9.trans J12
      have hs12 := hs9.keep0 J12
      have ht12 := ht9.keep0 J12
      have hd12 := hd9.keep0 J12
      have hl12 := hl9.keep0 J12
      have ha12 := ha9.keeps J12 (by simp)
      clear hs9 ht9 hd9 hl9 ha9 J12 K9
      go_wp2_with fail
      refine (Minus_p hd12 ht12 (by omega)).mono ?_
      rintro e x13 ⟨rfl, hd13, j13⟩
      have K13 := K12.step j13 (by simp; omega)
      have hs13 := hs12.keeps j13 (by simp; omega) (by simp; omega)
      have hl13 := hl12.keeps j13 (by simp; omega) (by simp; omega)
      have ha13 := ha12.keeps j13 (by simp; omega)
      rw [minus_or] at hd13
      clear hs12 ht12 hd12 hl12 ha12 j13 K12
      go_wp2_with fail
      refine (All_p hd13 (HT.out.keeps K13 hpos (by simp))).mono ?_
      rintro e x14 ⟨v14, rfl, hv14, j14⟩
      have hl14 := Lib.hid (hv14.sl (HML.out _))
      have hl14s := hl13.keep0 j14
      clear hv14
      go_wp2_with fail
      refine (All_p hl14s (HT.out.keeps (K13.trans j14) hpos (by simp))).mono ?_
      rintro e x15 ⟨v15, rfl, hv15, j15⟩
      have hl15 := Lib.hid (hv15.sl (HML.out _))
      have hl14' := Lib.hid (hl14.out.keeps j15 (by simp))
      have J15 := j14.trans j15
      clear hv15 hl14 hl14s j14 j15
      go_wp2_with fail
      refine (Equal_e hl14'.out hl15.out rfl).mono ?_
      rintro e y ⟨rfl, i16, rfl⟩
      have J16 := J15.drewN i16
      clear J15 hl14' hl15
      generalize x15.drewN i16 = x16 at *
      have K16 := K13.trans J16
      have hs16 := hs13.keep0 J16
      have ha16 := ha13.keeps J16 (by simp)
      clear hs13 hd13 hl13 ha13 J16 K13
      go_wp2_with fail
      refine (Union_self hs16).mono ?_
      rintro e x17 ⟨rfl, hs17, j17⟩
      have K17 := K16.step j17 (by simp; omega)
      have ha17 := ha16.keeps j17 (by have := hs16.row ha16 (by decide) (by decide); simp; omega)
      clear hs16 ha16 j17 K16
      go_wp2_with fail
      refine (All_p hs17 (HT.out.keeps K17 hpos (by simp))).mono ?_
      rintro e x18 ⟨v18, rfl, hv18, j18⟩
      have hl18 := Lib.hid (hv18.sl (HML.out _))
      have ha18 := ha17.keeps j18 (by simp)
      clear hv18
      go_wp2_with fail
      refine (listed_in ha18 h2).mono ?_
      rintro e x19 ⟨v19, rfl, hv19, j19⟩
      have hl19 := Lib.hid (hv19.sl (HML.out _))
      have hl18' := Lib.hid (hl18.out.keeps j19 (by simp))
      have J19 := j18.trans j19
      clear hv19 hl18 ha18 j18 j19 ha17
      go_wp2_with fail
      refine (Equal_e hl18'.out hl19.out rfl).mono ?_
      rintro e y ⟨rfl, i20, rfl⟩
      have J20 := J19.drewN i20
      clear J19 hl18' hl19
      generalize x19.drewN i20 = x20 at *
      have K20 := K17.trans J20
      have hs20 := hs17.keep0 J20
      clear hs17 J20 K17
      go_wp2_with fail
      refine (Minus_self hs20).mono ?_
      rintro e x21 ⟨rfl, hs21, j21⟩
      have K21 := K20.step j21 (by simp; omega)
      have C21 := Lib.hid (Count_p hs21)
      rw [picks_noneP'] at C21
      clear hs20 hs21 K20 j21
      go_wp2_with fail
      refine C21.out.mono ?_
      rintro e y ⟨rfl, rfl⟩
      go_wp2_with fail
      refine (works_ok (HT.out.keeps K21 hpos (by simp))).mono ?_
      rintro e x22 ⟨rfl, k22⟩
      go_wp2_with fail
      go_ret
      exact ⟨rfl, (K21.trans k22).below⟩
end Go.Proofs.YtcdnflffpeijfaaDoor
