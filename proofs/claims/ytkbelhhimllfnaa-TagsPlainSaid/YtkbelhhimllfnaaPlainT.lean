/- TagsPlain: for every input the call returns true, and nothing that was there has changed. No condition. -/
import Derived.Test.YtkbelhhimllfnaaKitB
import Derived.Test.YtkbelhhimllfnaaRestP
import Derived.OpenShut
namespace Go.Proofs.Ytkbelhhimllfnaa
open Go.RowKit

/-- The letters of plain tags. -/
def lets : List UInt8 := [97, 98, 99, 100, 101, 102, 103, 104, 105, 106, 107, 108, 109, 110, 111, 112, 113, 114, 115, 116, 117, 118, 119, 120, 121, 122, 48, 49, 50, 51, 52, 53, 54, 55, 56, 57, 45, 46, 95]
theorem lets_plain (b : UInt8) : plainR b.toNat = decide (b ∈ lets) := by
  have h : ∀ n : Fin 256, plainR n.val = decide (UInt8.ofNat n.val ∈ lets) := by decide +kernel
  have := h ⟨b.toNat, b.toNat_lt⟩
  simpa using this
def letAt (z : Nat) : UInt8 := lets.getD (z % 39) 0
theorem letAt_mem (z : Nat) : letAt z ∈ lets := by
  unfold letAt
  have h : z % 39 < lets.length := Nat.mod_lt _ (by decide)
  simp only [List.getD, List.getElem?_eq_getElem h, Option.getD_some]
  exact List.getElem_mem h
theorem letAt_plain (z : Nat) : plainR (letAt z).toNat = true := by rw [lets_plain]; exact decide_eq_true (letAt_mem z)
/-- What a text of plain letters is. -/
theorem plain_tag {l : List UInt8} (h : plainAll l = true) (h1 : 1 ≤ l.length) (h2 : l.length ≤ 24) : TagOf (l.map UInt8.toNat) l := by
  have hp : ∀ b ∈ l, plainR b.toNat = true := fun b hb => List.all_eq_true.1 h b hb
  refine ⟨low_encs l (fun b hb => plainR_low (hp b hb)), ?_, ?_, by simpa using h1, by simpa using h2⟩
  · intro r hr
    obtain ⟨b, hb, rfl⟩ := List.mem_map.1 hr
    have := plainR_low (hp b hb)
    unfold Sc
    omega
  · intro r hr
    obtain ⟨b, hb, rfl⟩ := List.mem_map.1 hr
    have := hp b hb
    simp only [plainR, Bool.or_eq_true, Bool.and_eq_true, decide_eq_true_eq] at this
    simp only [fine, Bool.and_eq_true, decide_eq_true_eq]
    omega
theorem plain_escs {l : List UInt8} (h : plainAll l = true) : escs l = l := by
  induction l with
  | nil => rfl
  | cons b l ih =>
    simp only [plainAll, List.all_cons, Bool.and_eq_true] at h
    have hb : escB b = [b] := by
      unfold escB
      rw [if_neg]
      rintro (rfl | rfl)
      · exact absurd h.1 (by decide)
      · exact absurd h.1 (by decide)
    simp only [escs, List.flatMap_cons, hb] at ih ⊢
    rw [ih h.2]
    rfl
theorem plain_width {l : List UInt8} (h : plainAll l = true) : widthOf (l.map UInt8.toNat) = l.length := by
  induction l with
  | nil => rfl
  | cons b l ih =>
    simp only [plainAll, List.all_cons, Bool.and_eq_true] at h
    have hb : placesOf b.toNat = 1 := by
      have := plainR_low h.1
      unfold placesOf
      rw [if_pos (by omega)]
    rw [List.map_cons, widthOf_cons, hb, ih h.2, List.length_cons]
    omega
theorem plainB_of {l : List UInt8} (h1 : 1 ≤ l.length) (h2 : l.length ≤ 24) : plainB l = plainAll l := by
  rw [plainB_eq]
  cases hp : plainAll l with
  | true => rw [(plain_tag hp h1 h2).isTag]; rfl
  | false => rfl
theorem plainAll_set {l : List UInt8} (h : plainAll l = true) (k : Nat) (hk : k < l.length) (o : UInt8) : plainAll (l.set k o) = plainR o.toNat := by
  cases ho : plainR o.toNat with
  | true =>
    unfold plainAll
    rw [List.all_eq_true]
    intro b hb
    rcases List.mem_or_eq_of_mem_set hb with hb | rfl
    · exact List.all_eq_true.1 h b hb
    · exact ho
  | false =>
    unfold plainAll
    rw [List.all_eq_false]
    exact ⟨o, List.mem_set hk _, by rw [ho]; simp⟩
/-- The letters that the numbers name. -/
def named (zs : List Int) (i : Nat) : List UInt8 := (List.range i).map fun j => letAt (zs.getD j 0).toNat
theorem named_len (zs : List Int) (i : Nat) : (named zs i).length = i := by simp [named]
theorem named_succ (zs : List Int) (i : Nat) : named zs (i + 1) = named zs i ++ [letAt (zs.getD i 0).toNat] := by simp [named, List.range_succ]
theorem named_plain (zs : List Int) (i : Nat) : plainAll (named zs i) = true := by
  unfold plainAll named
  rw [List.all_eq_true]
  intro b hb
  obtain ⟨j, _, rfl⟩ := List.mem_map.1 hb
  exact letAt_plain _
/-- A store into a slice of the call's own. -/
theorem OwnB.put {w : World} {B : Nat} {g n cap : Nat} {xs : List Int} (h : OwnB w B (.slice (some ⟨g, 0, none⟩) n cap) xs) (k : Nat) (hk : k < xs.length) (x : Int) : OwnB (w.setCell ⟨g, k, none⟩ (.int .u8 x)) B (.slice (some ⟨g, 0, none⟩) n cap) (xs.set k x) := by
  rcases h.2 with ⟨hv, _⟩ | ⟨g', cap', cur, hv, hB, hg, h1, h2, h3, h4⟩
  · cases hv
  · injection hv with e1 e2 e3
    injection e1 with e1
    injection e1 with e1 _ _
    subst e1
    subst e3
    have hb : Blk w g 5 cur := hg
    refine ⟨by simp, .inr ⟨g, cap, cur.setIfInBounds k (.int .u8 x), by rw [e2, List.length_set], hB, hb.put k _, by rw [List.length_set]; exact h1, h2, by rw [Array.size_setIfInBounds]; exact h3, ?_⟩⟩
    rw [Array.toList_setIfInBounds, List.length_set, List.take_set, h4, List.map_set]
theorem OwnB.row {w : World} {B : Nat} {v : Value} {xs : List Int} (h : OwnB w B v xs) (h1 : 1 ≤ xs.length) : ∃ g cap cur, v = .slice (some ⟨g, 0, none⟩) xs.length cap ∧ B ≤ g ∧ Blk w g 5 cur ∧ (∀ k, k < xs.length → ∃ u, w.cell? ⟨g, k, none⟩ = some u) := by
  rcases h.form with ⟨_, h0⟩ | ⟨g, cap, cur, hv, hB, hb, hle, _, hs, ht⟩
  · rw [h0] at h1; simp at h1
  · refine ⟨g, cap, cur, hv, hB, hb, fun k hk => ⟨cur[k]'(by omega), ?_⟩⟩
    rw [hb.cell k]
    simp [show k < cur.size by omega]
theorem nums_set (l : List UInt8) (k : Nat) (o : UInt8) : nums (l.set k o) = (nums l).set k (o.toNat : Int) := by
  unfold nums
  rw [List.map_set]

set_option maxRecDepth 1000000 in
set_option maxHeartbeats 16000000 in
theorem plain_walk (v : Value) (zs : List Int) (o at_ : Nat) (ho : o < 256) (hat : at_ < 256) (w : World) (hv : ArgI .u8 w v zs) :
    Calls Try.prog 4 #[v, .int .u8 o, .int .u8 at_] w fun e w' => e = .returned (.bool true) ∧ Below w.heap.size w w' := by
  obtain ⟨hwf, hsl⟩ := hv
  -- the argument
  have hz : ∀ i, i < zs.length → ∃ z : Nat, zs.getD i 0 = z ∧ z < 256 := by
    intro i hi
    have := bounds_u8 (hwf _ (getD_mem zs 0 i hi))
    exact ⟨(zs.getD i 0).toNat, by omega, by omega⟩
  obtain ⟨N, hN⟩ : ∃ N, zs.length = N := ⟨_, rfl⟩
  obtain ⟨ad, cap, rfl, hbig, hcell⟩ : ∃ ad cap, v = .slice ad N cap ∧ N ≤ maxLen ∧ (∀ i, i < N → ∃ b off, ad = some ⟨b, off, none⟩ ∧ b < w.heap.size ∧ w.cell? ⟨b, off + i, none⟩ = some (.int .u8 (zs.getD i 0))) := by
    rcases hsl with ⟨rfl, a, c, rfl⟩ | ⟨b, off, c, rfl, h1, h2, h3, h4, h5⟩
    · subst hN
      exact ⟨a, c, rfl, by unfold maxLen; simp, fun i hi => by simp at hi⟩
    · rw [hN] at h1 h5 ⊢
      exact ⟨_, c, rfl, by omega, fun i hi => ⟨b, off, rfl, h3, h5 i hi⟩⟩
  have hN63 : N ≤ 9223372036854775807 := by unfold maxLen at hbig; omega
  have HZ := Lib.hid hz
  have HC := Lib.hid hcell
  have HN := Lib.hid hN
  clear hz hcell hN hwf hsl hbig
  have emp : ByteArray.size ⟨#[97, 98, 99, 100, 101, 102, 103, 104, 105, 106, 107, 108, 109, 110, 111, 112, 113, 114, 115, 116, 117, 118, 119, 120, 121, 122, 48, 49, 50, 51, 52, 53, 54, 55, 56, 57, 45, 46, 95]⟩ = 39 := rfl
  go_enter Try.func4, Try.ntmps4
  go_wp2_with fail
  go_loopw [8, 9] (fun x y wr => ∃ i : Nat, y = .int .i64 i ∧ i ≤ N ∧ i ≤ 24 ∧ OwnB wr w.heap.size x (nums (named zs i)) ∧ Keeps [] w wr) (fun _ y _ => 24 - (RowKit.intOf y).toNat)
  case atStart => exact ⟨0, rfl, Nat.zero_le _, Nat.zero_le _, OwnB.nil _ _, Keeps.refl _ _⟩
  case round =>
    obtain ⟨i, rfl, hi1, hi2, hx, hK⟩ := hrel
    have hsz := hK.size
    have HNl := Lib.hid (show (nums (named zs i)).length = i by rw [nums_len, named_len])
    by_cases hgo : i < N ∧ i < 24
    · obtain ⟨hi3, hi4⟩ := hgo
      obtain ⟨b, off, rfl, hb, hc⟩ := HC.out i hi3
      obtain ⟨z, hz, hz8⟩ := HZ.out i (by rw [HN.out]; exact hi3)
      have hcw : wr.cell? ⟨b, off + i, none⟩ = some (.int .u8 z) := by
        rw [hK.cell (p := ⟨b, off + i, none⟩) hb (by simp), hc, hz]
      have HS := Lib.hid (show nums (named zs (i + 1)) = nums (named zs i) ++ nums [letAt z] by rw [named_succ, nums_append, hz]; rfl)
      have g : ∀ h, ((⟨#[97, 98, 99, 100, 101, 102, 103, 104, 105, 106, 107, 108, 109, 110, 111, 112, 113, 114, 115, 116, 117, 118, 119, 120, 121, 122, 48, 49, 50, 51, 52, 53, 54, 55, 56, 57, 45, 46, 95]⟩ : ByteArray)[z % 39]'h) = letAt z := by
        intro h
        unfold letAt
        simp only [List.getD, List.getElem?_eq_getElem (show z % 39 < lets.length from Nat.mod_lt _ (by decide)), Option.getD_some]
        rfl
      have em : ((z : Int)).tmod 39 = ((z % 39 : Nat) : Int) := by rw [Int.tmod_eq_emod_of_nonneg (by omega)]; rfl
      have em2 : (z : Int) % 39 = ((z % 39 : Nat) : Int) := rfl
      have hq := Nat.mod_lt z (show 0 < 39 by decide)
      have hi3' : (i : Int) < N := by omega
      obtain ⟨pa, pc, rfl⟩ := hx.shape
      have hl8 := (letAt z).toNat_lt
      generalize letAt z = c at *
      generalize z % 39 = q at *
      clear hc hz
      go_wp2_with (at_builtin; refine wpList_append_slB rfl (.tmp 27) (.tmp 38) 34 rfl w.heap.size Try.underlying34 infoByte rfl rfl (hx.alloc _) (SlB.litB c (Blk.new wr 5 #[.int .u8 c.toNat])) (by rw [HNl.out]; simp [nums] at *; omega) (by simp; omega) ?_; intro v9 w9 hown9 hgrow9 hat9)
      have hk9 : Keeps [] w w9 := (hK.alloc _).grown hgrow9 (fun y hy => .inr (hx.lt y hy).1)
      go_roundw
      case rel => exact ⟨i + 1, by go_num, by omega, by omega, by rw [HS.out]; exact hown9, hk9⟩
      case measure => simp [RowKit.intOf]; omega
    · have hstop : i = N ∨ (i = 24 ∧ 24 ≤ N) := by omega
      have hp := named_plain zs i
      have hln := named_len zs i
      obtain ⟨ls, hls⟩ : ∃ ls, named zs i = ls := ⟨_, rfl⟩
      rw [hls] at hx HNl hp hln
      have hi24 := hi2
      have hconv := run_text (P := Try.prog) hx (by unfold maxLen; omega) 34 9 5 Try.underlying34 Try.underlying5 Try.underlying9
      obtain ⟨T, hT⟩ : ∃ T : ByteArray, (⟨ls.toArray⟩ : ByteArray) = T := ⟨_, rfl⟩
      have hTl : T.data.toList = ls := by rw [← hT]
      have hTs : T.size = i := by rw [Lib.size_eq, hTl, hln]
      rw [hT] at hconv
      by_cases h0 : i = 0
      · have hTe : T = ⟨#[]⟩ := by
          rw [← hT, show ls = [] from List.eq_nil_of_length_eq_zero (by omega)]
        have hpl := Plain_ok ⟨#[]⟩ (by decide)
        rw [show plainB (⟨#[]⟩ : ByteArray).data.toList = false by decide +kernel] at hpl
        have HPl := Lib.hid hpl
        rw [hTe] at hconv
        have hN0 : N = 0 := by omega
        obtain ⟨pa, pc, hxs⟩ := hx.shape
        rw [HNl.out, h0] at hxs
        subst hxs
        subst hN0
        subst h0
        clear hT hTl hTs hls hp hln hpl hstop hgo hTe
        go_wp2_with fail
        refine (HPl.out _).mono ?_
        rintro e W1 ⟨rfl, k1⟩
        go_wp2_with fail
        refine (works_ok _).mono ?_
        rintro e W2 ⟨rfl, k2⟩
        go_wp2_with fail
        go_ret
        exact ⟨rfl, ((hK.trans k1).trans k2).below⟩
      · have h1 : 1 ≤ i := by omega
        have htag := plain_tag hp (by omega) (by omega)
        have hq := Quote_ok T (ls.map UInt8.toNat) (by rw [hTl]; exact htag)
        have hw := Width_ok T (ls.map UInt8.toNat) (by rw [hTl]; exact htag)
        have hpl := Plain_ok T (by omega)
        rw [hTl, plainB_of (by omega) (by omega), hp] at hpl
        rw [plain_width hp, hln] at hw
        rw [hTl, show quoteOf ls = [34] ++ ls ++ [34] by unfold quoteOf; rw [plain_escs hp]; rfl] at hq
        unfold StrErr at hq
        unfold IntErr at hw
        have hqe : (⟨([34] ++ ls ++ [34]).toArray⟩ : ByteArray) = (⟨#[34]⟩ : ByteArray) ++ T ++ ⟨#[34]⟩ := by
          symm
          refine ba_eq ?_
          rw [ByteArray.data_append, ByteArray.data_append, Array.toList_append, Array.toList_append, hTl]
        rw [hqe] at hq
        have hz1 : ¬ 9223372036854775807 < 1 + T.size := by omega
        have hz2 : ¬ 9223372036854775807 < 1 + T.size + 1 := by omega
        have HQ := Lib.hid hq
        have HW := Lib.hid hw
        have HPl := Lib.hid hpl
        have HX := Lib.hid hx
        -- the store
        have hrow := hx.row (by rw [HNl.out]; omega)
        rw [HNl.out] at hrow
        obtain ⟨g, pc, cur, rfl, hgB, hgb, hgc⟩ := hrow
        have emq : ((at_ : Int)).tmod i = ((at_ % i : Nat) : Int) := by rw [Int.tmod_eq_emod_of_nonneg (by omega)]; rfl
        have emq2 : (at_ : Int) % i = ((at_ % i : Nat) : Int) := rfl
        have hjl := Nat.mod_lt at_ (show 0 < i by omega)
        have eiz : ¬ i = 0 := h0
        have hz3 : ¬ 9223372036854775807 < ByteArray.size ⟨#[34]⟩ + T.size := hz1
        have hz4 : ¬ 9223372036854775807 < ByteArray.size ⟨#[34]⟩ + T.size + ByteArray.size ⟨#[34]⟩ := hz2
        have ei0 : ((i : Int) == 0) = false := beq_eq_false_iff_ne.2 (by omega)
        obtain ⟨ob, hob⟩ : ∃ ob : UInt8, ob.toNat = o := ⟨UInt8.ofNat o, ofNat_toNat ho⟩
        have hset := plainAll_set hp (at_ % i) (by rw [hln]; exact hjl) ob
        have hin := lets_plain ob
        have HIn := Lib.hid hin
        have HSet := Lib.hid hset
        have hcases : (N = i) ∨ (i < N ∧ i = 24) := by omega
        clear hq hw hpl hqe hT hls htag hx hset hin hstop hgo
        generalize hjd : at_ % i = j at *
        have key : ∀ W, Keeps [] w W → OwnB W w.heap.size (.slice (some ⟨g, 0, none⟩) i pc) (nums ls) → True := fun _ _ _ => trivial
        clear key
        have hjl' : (j : Int) < i := by omega
        have HGC := Lib.hid hgc
        have HGB := Lib.hid hgb
        have hglt := hgb.lt
        have dN : ((N : Int) ≤ i) ∨ ((24 : Int) ≤ i ∧ (i : Int) < N) := by omega
        clear hgc hgb hcases
        rcases dN with d1 | ⟨d1, d2⟩
        all_goals
          go_wp2_with fail
          refine (HQ.out _).mono ?_
          rintro e W1 ⟨rfl, k1⟩
          go_wp2_with fail
          refine (HW.out _).mono ?_
          rintro e W2 ⟨rfl, k2⟩
          go_wp2_with fail
          refine (HPl.out _).mono ?_
          rintro e W3 ⟨rfl, k3⟩
          have k123 := (k1.trans k2).trans k3
          have hgb3 := HGB.out.keeps k123 (by simp)
          obtain ⟨u, hu⟩ := HGC.out j hjl
          have hc3 : W3.cell? ⟨g, j, none⟩ = some u := by rw [k123.cell (p := ⟨g, j, none⟩) hglt (by simp)]; exact hu
          have hf3 := hgb3.frozen j
          have hx3 := (HX.out.keeps k123 (by simp)).put j (by rw [HNl.out]; exact hjl) (o : Int)
          rw [show ((nums ls).set j (o : Int)) = nums (ls.set j ob) by rw [nums_set, hob]] at hx3
          have hK4 : Keeps [] w (W3.setCell ⟨g, j, none⟩ (.int .u8 o)) := (hK.trans k123).setCell (.inr hgB) _
          have hconv4 := run_text (P := Try.prog) hx3 (by rw [List.length_set]; unfold maxLen; omega) 34 9 5 Try.underlying34 Try.underlying5 Try.underlying9
          have hpl2 := Plain_ok ⟨(ls.set j ob).toArray⟩ (by show (ls.set j ob).toArray.size ≤ 1000; simp; omega)
          rw [show plainB (⟨(ls.set j ob).toArray⟩ : ByteArray).data.toList = plainB (ls.set j ob) from rfl, plainB_of (by rw [List.length_set]; omega) (by rw [List.length_set]; omega), HSet.out, HIn.out] at hpl2
          have HPl2 := Lib.hid hpl2
          have HX3 := Lib.hid hconv4
          have HK4 := Lib.hid hK4
          clear hx3 hconv4 hpl2 hK4 hu hgb3
          go_wp2_with fail
          obtain ⟨W4, hW4⟩ : ∃ W4, W3.setCell ⟨g, j, none⟩ (.int .u8 o) = W4 := ⟨_, rfl⟩
          rw [hW4] at HX3 HK4 ⊢
          clear hW4 hc3 hf3
          go_loop [15, 16] (fun x y => ∃ m : Nat, x = .bool (decide (ob ∈ lets.take m)) ∧ y = .int .i64 m ∧ m ≤ 39) (fun _ y => 39 - (RowKit.intOf y).toNat)
          case atStart => exact ⟨0, by simp, rfl, by omega⟩
          case round =>
            obtain ⟨m, rfl, rfl, hm⟩ := hrel
            by_cases hm2 : m < 39
            · have hlm : m < lets.length := by rw [show lets.length = 39 from rfl]; exact hm2
              have hmem : decide (ob ∈ lets.take (m + 1)) = (decide (ob ∈ lets.take m) || (lets.getD m 0 == ob)) := by
                rw [List.take_succ_eq_append_getElem hlm]
                simp only [List.mem_append, List.mem_singleton, List.getD, List.getElem?_eq_getElem hlm, Option.getD_some]
                by_cases h1 : ob ∈ lets.take m
                · simp [h1]
                · by_cases h2 : lets[m] = ob
                  · simp [h1, h2]
                  · have h3 : ¬ (ob = lets[m]) := fun e => h2 (Eq.symm e)
                    simp [h1, h2, h3]
              have gl : ∀ h, ((⟨#[97, 98, 99, 100, 101, 102, 103, 104, 105, 106, 107, 108, 109, 110, 111, 112, 113, 114, 115, 116, 117, 118, 119, 120, 121, 122, 48, 49, 50, 51, 52, 53, 54, 55, 56, 57, 45, 46, 95]⟩ : ByteArray)[m]'h) = lets.getD m 0 := by
                intro h
                simp only [List.getD, List.getElem?_eq_getElem hlm, Option.getD_some]
                rfl
              have heq : (((lets.getD m 0).toNat : Int) == (o : Int)) = (lets.getD m 0 == ob) := by
                rw [← hob]
                by_cases h : lets.getD m 0 = ob
                · rw [h]; simp
                · have : (lets.getD m 0).toNat ≠ ob.toNat := fun e => h (UInt8.toNat_inj.1 e)
                  rw [beq_eq_false_iff_ne.2 h, beq_eq_false_iff_ne.2 (by omega)]
              have HM := Lib.hid hmem
              have hc8 := (lets.getD m 0).toNat_lt
              generalize lets.getD m 0 = c at *
              clear hmem
              cases hd : decide (ob ∈ lets.take m) with
              | true =>
                rw [hd] at HM
                clear hd heq
                go_wp2_with fail
                go_round
                case rel => exact ⟨m + 1, by rw [HM.out]; rfl, by go_num, by omega⟩
                case measure => simp [RowKit.intOf]; omega
              | false =>
                rw [hd] at HM
                cases hcb : (c == ob) with
                | true =>
                  rw [hcb] at HM heq
                  clear hd hcb
                  go_wp2_with fail
                  go_round
                  case rel => exact ⟨m + 1, by rw [HM.out]; rfl, by go_num, by omega⟩
                  case measure => simp [RowKit.intOf]; omega
                | false =>
                  rw [hcb] at HM heq
                  clear hd hcb
                  go_wp2_with fail
                  go_round
                  case rel => exact ⟨m + 1, by rw [HM.out]; rfl, by go_num, by omega⟩
                  case measure => simp [RowKit.intOf]; omega
            · obtain rfl : m = 39 := by omega
              rw [show lets.take 39 = lets from rfl]
              have hconv := HX3.out
              generalize decide (ob ∈ lets) = bb at *
              generalize (⟨(ls.set j ob).toArray⟩ : ByteArray) = T2 at *
              have hbb : (bb == bb) = true := by cases bb <;> rfl
              go_wp2_with fail
              refine (HPl2.out _).mono ?_
              rintro e W5 ⟨rfl, k5⟩
              go_wp2_with fail
              refine (works_ok _).mono ?_
              rintro e W6 ⟨rfl, k6⟩
              go_wp2_with fail
              go_ret
              exact ⟨rfl, ((HK4.out.trans k5).trans k6).below⟩
end Go.Proofs.Ytkbelhhimllfnaa
