/- Plain laws for TagsRefuses: where the runes of a text begin; texts that are no tags once something is put in. No condition. -/
import Derived.Test.YtkbelhhimllfnaaWorks
namespace Go.Proofs.Ytkbelhhimllfnaa
open Go.Lib

/-- Where the runes begin. -/
def offs (rs : List Nat) : List Int := (List.range rs.length).map fun j => ((encs (rs.take j)).length : Int)
theorem offs_len (rs : List Nat) : (offs rs).length = rs.length := by simp [offs]
theorem offs_snoc (rs : List Nat) (r : Nat) : offs (rs ++ [r]) = offs rs ++ [((encs rs).length : Int)] := by
  unfold offs
  rw [List.length_append, List.length_singleton, List.range_succ, List.map_append]
  congr 1
  · apply List.map_congr_left
    intro j hj
    have : j < rs.length := List.mem_range.1 hj
    rw [List.take_append_of_le_length (by omega)]
  · simp
theorem offs_at (rs : List Nat) {j : Nat} (h : j ≤ rs.length) : (offs rs ++ [((encs rs).length : Int)]).getD j 0 = ((encs (rs.take j)).length : Int) := by
  rcases Nat.lt_or_ge j rs.length with hj | hj
  · simp only [List.getD]
    rw [List.getElem?_append_left (by rw [offs_len]; exact hj)]
    unfold offs
    simp [hj]
  · obtain rfl : j = rs.length := by omega
    simp only [List.getD]
    rw [List.getElem?_append_right (by rw [offs_len]; omega), offs_len]
    simp

def bads : List (List UInt8) := [[0], [10], [31], [127], [255], [128], [192, 128], [237, 160, 128], [244, 144, 128, 128], [226, 130], [193, 191], [248, 136, 128, 128, 128]]

theorem allOf_append (has : Nat → Bool) {rs : List Nat} (h : ∀ r ∈ rs, Sc r) (t : List UInt8) (ht : allOf has t = none) : allOf has (encs rs ++ t) = none := by
  unfold allOf at *
  rw [runes_encs_append rs h]
  cases hr : runes t with
  | none => rfl
  | some ts =>
    rw [hr] at ht
    simp only [Option.bind_some] at ht
    have : ts.all has = false := by
      cases ha : ts.all has with
      | false => rfl
      | true => rw [ha] at ht; simp at ht
    simp only [Option.map_some, Option.bind_some, List.all_append, this, Bool.and_false, Bool.false_eq_true, if_false]

/-- The first byte of a text of runes does not go on a rune. -/
theorem first_byte {ts : List Nat} (h : ∀ r ∈ ts, Sc r) (hne : ts ≠ []) : ((encs ts).getD 0 0).toNat / 64 ≠ 2 := by
  cases ts with
  | nil => exact absurd rfl hne
  | cons r ts =>
    have hs := h r (by simp)
    rw [encs_cons]
    by_cases h1 : r < 128
    · rw [enc_one h1]
      simp only [List.cons_append, List.getD_cons_zero, ofNat_toNat (show r < 256 by omega)]
      omega
    · by_cases h2 : r < 2048
      · rw [enc_two (by omega) h2]
        simp only [List.cons_append, List.getD_cons_zero, ofNat_toNat (show 192 + r / 64 < 256 by omega)]
        omega
      · by_cases h3 : r < 65536
        · rw [enc_three (by omega) h3 hs]
          simp only [List.cons_append, List.getD_cons_zero, ofNat_toNat (show 224 + r / 4096 < 256 by omega)]
          omega
        · rw [enc_four (by omega) hs]
          have hs' := hs
          unfold Sc at hs'
          simp only [List.cons_append, List.getD_cons_zero, ofNat_toNat (show 240 + r / 262144 < 256 by omega)]
          omega

theorem bad_none {B : List UInt8} (hB : B ∈ bads) {ts : List Nat} (h : ∀ r ∈ ts, Sc r) : allOf fine (B ++ encs ts) = none := by
  have hone : ∀ b : UInt8, b.toNat < 128 → fine b.toNat = false → allOf fine ([b] ++ encs ts) = none := by
    intro b hb hf
    have hd : decodeL ([b] ++ encs ts) = (b.toNat, 1) := by
      have := decode_enc b.toNat (by unfold Sc; omega) (encs ts)
      rw [enc_one hb] at this
      simpa using this
    exact allOf_no fine (by simp) (by rw [hd]; intro e; injection e with e1 e2; omega) (by rw [hd]; exact hf)
  have hbad : ∀ {B : List UInt8}, B ≠ [] → decodeL (B ++ encs ts) = (65533, 1) → allOf fine (B ++ encs ts) = none := fun hne hd => allOf_bad fine (by simp [hne]) hd
  simp only [bads, List.mem_cons, List.not_mem_nil, or_false] at hB
  rcases hB with rfl | rfl | rfl | rfl | rfl | rfl | rfl | rfl | rfl | rfl | rfl | rfl
  · exact hone _ (by decide) (by decide)
  · exact hone _ (by decide) (by decide)
  · exact hone _ (by decide) (by decide)
  · exact hone _ (by decide) (by decide)
  · exact hbad (by simp) (by rw [decodeL_N]; simp [decodeN])
  · exact hbad (by simp) (by rw [decodeL_N]; simp [decodeN])
  · exact hbad (by simp) (by rw [decodeL_N]; simp [decodeN])
  · exact hbad (by simp) (by rw [decodeL_N]; simp [decodeN])
  · exact hbad (by simp) (by rw [decodeL_N]; simp [decodeN])
  · refine hbad (by simp) ?_
    rw [decodeL_N]
    by_cases hne : ts = []
    · subst hne; simp [decodeN]
    · have hf := first_byte h hne
      have e2 : ([226, 130] ++ encs ts).getD 2 0 = (encs ts).getD 0 0 := by simp
      rw [e2]
      simp only [List.cons_append, List.getD_cons_zero, List.getD_cons_succ]
      generalize ((encs ts).getD 0 0).toNat = q at *
      unfold decodeN
      rw [if_neg (by decide), if_neg (by intro h; exact absurd h.1 (by decide)), if_neg (by rintro ⟨_, _, _, h⟩; exact hf h), if_neg (by intro h; exact absurd h.1 (by decide))]
  · exact hbad (by simp) (by rw [decodeL_N]; simp [decodeN])
  · exact hbad (by simp) (by rw [decodeL_N]; simp [decodeN])

theorem isTag_bad {B : List UInt8} (hB : B ∈ bads) {rs ts : List Nat} (hr : ∀ r ∈ rs, Sc r) (ht : ∀ r ∈ ts, Sc r) : isTag (encs rs ++ B ++ encs ts) = false := by
  unfold isTag
  rw [List.append_assoc, allOf_append fine hr _ (bad_none hB ht)]
theorem isTag_q {rs ts : List Nat} {l : List UInt8} (h : TagOf (rs ++ ts) l) : isTag (encs rs ++ [113] ++ encs ts) = decide ((rs ++ ts).length < 24) := by
  have e : encs rs ++ [113] ++ encs ts = encs (rs ++ 113 :: ts) := by
    rw [encs_append, encs_cons, show enc 113 = [113] from rfl]
    simp
  have hs : ∀ r ∈ rs ++ 113 :: ts, Sc r := by
    intro r hr
    rcases List.mem_append.1 hr with hr | hr
    · exact h.sc r (by simp [hr])
    · rcases List.mem_cons.1 hr with rfl | hr
      · decide
      · exact h.sc r (by simp [hr])
  have hf : (rs ++ 113 :: ts).all fine = true := by
    rw [List.all_eq_true]
    intro r hr
    rcases List.mem_append.1 hr with hr | hr
    · exact h.fine r (by simp [hr])
    · rcases List.mem_cons.1 hr with rfl | hr
      · decide
      · exact h.fine r (by simp [hr])
  have hm := h.most
  unfold isTag
  rw [e, allOf_encs hs, if_pos hf]
  simp only [List.length_append, List.length_cons] at *
  by_cases hl : rs.length + ts.length < 24
  · simp [hl]; omega
  · simp [hl]; omega
end Go.Proofs.Ytkbelhhimllfnaa
