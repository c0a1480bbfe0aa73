/- The contracts of the reference's Ints, of the laws' filled, and works. Condition: slices that can be read. -/
import Derived.Test.YtognnjaefaoefaaCopy
import Derived.OpenShut
namespace Go.Proofs.Ytognnjaefaoefaa
open Go.RowKit

def EqPost (xs ys : List Int) (w : World) (e : Ending) (w' : World) : Prop := e = .returned (.bool (decide (xs = ys))) ∧ ∃ n, w' = w.drewN n
theorem take_next (xs : List Int) (k : Nat) (h : k < xs.length) : xs.take (k + 1) = xs.take k ++ [xs.getD k 0] := take_last xs k h
theorem SlI.shape {w : World} {v : Value} {xs : List Int} (h : SlI w v xs) : ∃ a cap, v = .slice a xs.length cap := by
  rcases h with ⟨rfl, a, cap, rfl⟩ | ⟨b, off, cap, rfl, _⟩
  · exact ⟨a, cap, rfl⟩
  · exact ⟨_, cap, rfl⟩
/-- What a slice that has elements looks like. -/
theorem SlI.some_ {w : World} {a : Option Addr} {cap : Nat} {xs : List Int} (h : SlI w (.slice a xs.length cap) xs) {k : Nat} (hk : k < xs.length) : ∃ b off, a = some ⟨b, off, none⟩ ∧ b < w.heap.size ∧ xs.length ≤ maxLen ∧ ∀ i, i < xs.length → w.cell? ⟨b, off + i, none⟩ = some (.int .i64 (xs.getD i 0)) := by
  rcases h with ⟨rfl, _⟩ | ⟨b, off, cap', he, hm, hb, _, hc⟩
  · simp at hk
  · injection he with h1 h2 h3
    exact ⟨b, off, h1, hb, hm, hc⟩
set_option maxRecDepth 100000 in
set_option maxHeartbeats 1000000 in
theorem Ints_in {w : World} {v u : Value} {xs ys : List Int} (hv : SlI w v xs) (hu : SlI w u ys) (hx : xs.length ≤ 1000000) (hy : ys.length ≤ 1000000) : Calls Try.prog 23 #[v, u] w (EqPost xs ys w) := by
  obtain ⟨a, ca, rfl⟩ := hv.shape
  obtain ⟨c, cc, rfl⟩ := hu.shape
  by_cases hl : xs.length = ys.length
  · have HV := Lib.hid hv
    have HU := Lib.hid hu
    have HL := Lib.hid hl
    clear hv hu
    obtain ⟨n, hn⟩ : ∃ n, xs.length = n := ⟨_, rfl⟩
    have hn2 : ys.length = n := by omega
    have HN := Lib.hid hn
    have HN2 := Lib.hid hn2
    rw [hn] at hx
    unfold EqPost
    rw [hn, hn2]
    clear hn hn2 hl hy
    go_enter Try.func23, Try.ntmps23
    go_wp2_with fail
    go_loopw [5] (fun i wr => ∃ k m : Nat, i = .int .i64 k ∧ k ≤ n ∧ Hid (xs.take k = ys.take k) ∧ wr = w.drewN m) (fun i _ => n - (intOf i).toNat)
    case atStart => exact ⟨0, 0, rfl, Nat.zero_le _, Lib.hid rfl, rfl⟩
    case round =>
      obtain ⟨k, m, rfl, hk, HT, rfl⟩ := hrel
      by_cases hk' : k < n
      · have hkI : (k : Int) < n := by omega
        obtain ⟨b1, o1, rfl, _, _, hc1⟩ := HV.out.some_ (k := k) (by have := HN.out; omega)
        obtain ⟨b2, o2, rfl, _, _, hc2⟩ := HU.out.some_ (k := k) (by have := HN2.out; omega)
        have c1 := hc1 k (by have := HN.out; omega)
        have c2 := hc2 k (by have := HN2.out; omega)
        clear hc1 hc2
        by_cases he : xs.getD k 0 = ys.getD k 0
        · have htt : xs.take (k + 1) = ys.take (k + 1) := by rw [take_next _ _ (by have := HN.out; omega), take_next _ _ (by have := HN2.out; omega), HT.out, he]
          rw [← he] at c2
          have HTT := Lib.hid htt
          clear htt he
          generalize xs.getD k 0 = x at *
          go_wp2_with fail
          go_quiet (fail)
          go_wp2_with fail
          go_roundw
          case rel => exact ⟨k + 1, _, by go_num, by omega, HTT, rfl⟩
          case measure => simp [intOf]; omega
        · have hb1 : (xs.getD k 0 != ys.getD k 0) = true := by rw [bne_iff_ne]; exact he
          have hne : xs ≠ ys := fun e => he (by rw [e])
          have HD := Lib.hid (decide_eq_false hne)
          clear he hne
          generalize xs.getD k 0 = x at *
          generalize ys.getD k 0 = y at *
          go_wp2_with fail
          go_quiet (fail)
          go_wp2_with fail
          go_ret
          refine ⟨?_, _, World.drewN_drewN _ _ _⟩
          rw [HD.out]
          rfl
      · have hkI : ¬ (k : Int) < n := by omega
        have heq : xs = ys := by
          have := HT.out
          rw [List.take_of_length_le (by have := HN.out; omega), List.take_of_length_le (by have := HN2.out; omega)] at this
          exact this
        have HD := Lib.hid (decide_eq_true heq)
        clear heq
        go_wp2_with fail
        go_ret
        refine ⟨?_, _, rfl⟩
        rw [HD.out]
        rfl
  · have hb : ((xs.length : Int) != (ys.length : Int)) = true := by simp; omega
    have hne : decide (xs = ys) = false := decide_eq_false (fun e => hl (by rw [e]))
    unfold EqPost
    rw [hne]
    generalize xs.length = n at *
    generalize ys.length = m at *
    clear hv hu hl hne
    go_enter Try.func23, Try.ntmps23
    go_wp2_with fail
    go_ret
    exact ⟨rfl, 0, rfl⟩
theorem Ints_e {w : World} {v u : Value} {xs ys : List Int} (hv : SlI w v xs) (hu : SlI w u ys) (hx : xs.length ≤ 1000000) (e : xs = ys) : Calls Try.prog 23 #[v, u] w fun e w' => e = .returned (.bool true) ∧ ∃ n, w' = w.drewN n := by
  refine (Ints_in hv hu hx (by rw [← e]; exact hx)).mono ?_
  rintro e' w' ⟨he, hn⟩
  rw [decide_eq_true e] at he
  exact ⟨he, hn⟩
/-- Set, where it is allowed. -/
theorem Set_fine {w : World} {b : Nat} {O : List Nat} {L : List (Int × Int)} (h : Qu w b O L) (id a : Int) (ha : 0 ≤ a ∧ a ≤ 1099511627776) (hl : L.length < 256 ∨ placeOf L id < L.length) :
    Calls Try.prog 16 #[.pointer (some ⟨b, 0, none⟩), .int .i64 id, .int .i64 a] w fun e w' => e = .returned (.int .i64 0) ∧ Turned w w' b O (setE L id a) := by
  have h0 : setErr L id a = 0 := by unfold setErr; rw [if_neg (by omega), if_neg (by omega)]
  have h1 : setL L id a = setE L id a := by unfold setL; rw [if_pos h0]
  have := Set_in h id a
  rw [h0, h1] at this
  exact this
/-- The queue that the laws fill. -/
def fillL (zs : List Int) : Nat → List (Int × Int)
  | 0 => []
  | k + 1 => setE (fillL zs k) k (zs.getD k 0)
theorem fill_good (zs : List Int) : ∀ k, Good (fillL zs k)
  | 0 => Good.nil
  | k + 1 => (fill_good zs k).setE _ _
theorem fill_mem (zs : List Int) : ∀ (k : Nat) (e : Int × Int), e ∈ fillL zs k ↔ ∃ i : Nat, i < k ∧ e = ((i : Int), zs.getD i 0)
  | 0, e => by simp [fillL]
  | k + 1, e => by
    unfold fillL
    rw [mem_setE, fill_mem zs k e]
    constructor
    · rintro (rfl | ⟨⟨i, hi, rfl⟩, _⟩)
      · exact ⟨k, by omega, rfl⟩
      · exact ⟨i, by omega, rfl⟩
    · rintro ⟨i, hi, rfl⟩
      by_cases e : i = k
      · subst e; exact .inl rfl
      · exact .inr ⟨⟨i, by omega, rfl⟩, by simp; omega⟩
theorem fill_new (zs : List Int) (k : Nat) : ¬ placeOf (fillL zs k) k < (fillL zs k).length := by
  rw [place_lt]
  rintro ⟨e, he, h⟩
  obtain ⟨i, hi, rfl⟩ := (fill_mem zs k e).1 he
  simp at h
  omega
theorem fill_len (zs : List Int) : ∀ k, (fillL zs k).length = k
  | 0 => rfl
  | k + 1 => by
    unfold fillL
    rw [setE_len (fill_good zs k), if_neg (fill_new zs k), fill_len zs k]
/-- A new queue. -/
def FillPost (L : List (Int × Int)) (w : World) (e : Ending) (w' : World) : Prop := ∃ b O, e = .returned (.pointer (some ⟨b, 0, none⟩)) ∧ Qu w' b O L ∧ Keeps [] w w' ∧ ∀ x ∈ O, w.heap.size ≤ x
set_option maxRecDepth 1000000 in
set_option maxHeartbeats 1000000 in
theorem filled_in {w : World} {v : Value} {zs : List Int} (hv : ArgI .u8 w v zs) (hl : zs.length ≤ 60) : Calls Try.prog 12 #[v] w (FillPost (fillL zs zs.length) w) := by
  have hsh : ∃ a cap, v = .slice a zs.length cap := by
    rcases hv.2 with ⟨rfl, a, cap, rfl⟩ | ⟨b, off, cap, rfl, _⟩
    · exact ⟨a, cap, rfl⟩
    · exact ⟨_, cap, rfl⟩
  obtain ⟨a0, cap, rfl⟩ := hsh
  have HA := Lib.hid hv
  clear hv
  obtain ⟨n, hn⟩ : ∃ n, zs.length = n := ⟨_, rfl⟩
  have HN := Lib.hid hn
  rw [hn] at hl ⊢
  clear hn
  go_enter Try.func12, Try.ntmps12
  go_wp2_with fail
  refine (New_q _).mono ?_
  rintro e w1 ⟨b, O, rfl, hq, hk, hO⟩
  have HQ := Lib.hid hq
  have HK := Lib.hid hk
  have HO := Lib.hid hO
  clear hq hk hO
  go_wp2_with fail
  go_loopw [4] (fun i wr => ∃ (k : Nat) (O : List Nat), i = .int .i64 k ∧ k ≤ n ∧ Qu wr b O (fillL zs k) ∧ Keeps [] w wr ∧ Hid (∀ x ∈ O, w.heap.size ≤ x)) (fun i _ => n - (intOf i).toNat)
  case atStart => exact ⟨0, O, rfl, Nat.zero_le _, HQ.out, HK.out, HO⟩
  case round =>
    clear HQ HK HO
    obtain ⟨k, O, rfl, hk, hq, hK, hO⟩ := hrel
    by_cases hkn : k < n
    · have hkI : (k : Int) < (n : Int) := by omega
      obtain ⟨hwf, ⟨rfl, _⟩ | ⟨g, off, cap', he, hlc, hcm, hg, h0, hc⟩⟩ := HA.out
      · have := HN.out; simp at this; omega
      · injection he with he1 he2 he3
        subst he1
        have hw := Go.bounds_u8 (hwf _ (getD_mem zs 0 k (by have := HN.out; omega)))
        have c0 := (hK.cell (p := ⟨g, off + k, none⟩) hg (by simp)).trans (hc k (by have := HN.out; omega))
        have hS := Lib.hid (Set_fine hq k (zs.getD k 0) ⟨by omega, by omega⟩ (.inl (by rw [fill_len]; omega)))
        have hfs : fillL zs (k + 1) = setE (fillL zs k) k (zs.getD k 0) := rfl
        rw [← hfs] at hS
        have HKK := Lib.hid hK
        clear hfs hwf hc he2 he3 hq hK
        generalize zs.getD k 0 = z at *
        go_wp2_with fail
        refine hS.out.mono ?_
        rintro e w2 ⟨rfl, O', hq2, k2, hO2⟩
        have K2 := HKK.out.step k2 (fun x hx => .inr (hO.out x hx))
        have hO' := Lib.hid (show ∀ x ∈ O', w.heap.size ≤ x from fun x hx => (hO2 x hx).elim (hO.out x) (fun h => by have := HKK.out.size; omega))
        clear k2 hO2
        go_wp2_with fail
        go_roundw
        case rel => exact ⟨k + 1, O', by go_num, by omega, hq2, K2, hO'⟩
        case measure => simp [intOf]; omega
    · obtain rfl : k = n := by omega
      have hkI : ¬ (k : Int) < (k : Int) := by omega
      have HQ := Lib.hid hq
      clear hq
      go_wp2_with fail
      go_ret
      exact ⟨b, O, rfl, HQ.out, hK, hO.out⟩
end Go.Proofs.Ytognnjaefaoefaa
