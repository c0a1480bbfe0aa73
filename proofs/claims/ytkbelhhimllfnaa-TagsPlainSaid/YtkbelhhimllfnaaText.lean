/- Plain laws on texts of bytes: the runes that a text of UTF-8 has, and the text that runes give. No condition. -/
import Derived.Lib.MapLaws
namespace Go.Proofs.Ytkbelhhimllfnaa
open Go.Lib

/-- The numbers that stand for a rune in UTF-8. -/
def Sc (r : Nat) : Prop := r < 55296 ∨ (57344 ≤ r ∧ r ≤ 1114111)
instance (r : Nat) : Decidable (Sc r) := by unfold Sc; infer_instance

/-- The bytes of a rune, and of runes. -/
def enc (r : Nat) : List UInt8 := encodeRune (r : Int)
def encs (rs : List Nat) : List UInt8 := rs.flatMap enc
@[simp] theorem encs_nil : encs [] = [] := rfl
theorem encs_cons (r : Nat) (rs : List Nat) : encs (r :: rs) = enc r ++ encs rs := by simp [encs]
theorem encs_append (rs ts : List Nat) : encs (rs ++ ts) = encs rs ++ encs ts := by simp [encs]
theorem enc_len (r : Nat) : 1 ≤ (enc r).length ∧ (enc r).length ≤ 4 := by
  have := encodeRuneZ_length (r : Int)
  simpa [enc, encodeRune] using this
theorem enc_ne (r : Nat) : enc r ≠ [] := by
  intro h
  have := (enc_len r).1
  rw [h] at this
  simp at this

theorem enc_one {r : Nat} (h : r < 128) : enc r = [UInt8.ofNat r] := by
  unfold enc encodeRune
  rw [encodeRuneZ_one (by omega) (by omega)]
  simp
theorem enc_two {r : Nat} (h : 128 ≤ r) (h' : r < 2048) : enc r = [UInt8.ofNat (192 + r / 64), UInt8.ofNat (128 + r % 64)] := by
  unfold enc encodeRune
  rw [encodeRuneZ_two (by omega) (by omega)]
  simp only [List.map_cons, List.map_nil, List.cons.injEq, and_true]
  refine ⟨?_, ?_⟩ <;> congr 1
theorem enc_three {r : Nat} (h : 2048 ≤ r) (h' : r < 65536) (hs : Sc r) : enc r = [UInt8.ofNat (224 + r / 4096), UInt8.ofNat (128 + r / 64 % 64), UInt8.ofNat (128 + r % 64)] := by
  unfold enc encodeRune
  unfold Sc at hs
  rw [encodeRuneZ_three (by omega)]
  simp only [List.map_cons, List.map_nil, List.cons.injEq, and_true]
  refine ⟨?_, ?_, ?_⟩ <;> congr 1
theorem enc_four {r : Nat} (h : 65536 ≤ r) (hs : Sc r) : enc r = [UInt8.ofNat (240 + r / 262144), UInt8.ofNat (128 + r / 4096 % 64), UInt8.ofNat (128 + r / 64 % 64), UInt8.ofNat (128 + r % 64)] := by
  unfold enc encodeRune
  unfold Sc at hs
  rw [encodeRuneZ_four (by omega) (by omega)]
  simp only [List.map_cons, List.map_nil, List.cons.injEq, and_true]
  refine ⟨?_, ?_, ?_, ?_⟩ <;> congr 1

theorem ofNat_toNat {n : Nat} (h : n < 256) : (UInt8.ofNat n).toNat = n := by
  simp [Nat.mod_eq_of_lt h]

/-- What is written is read again. -/
theorem decode_enc (r : Nat) (h : Sc r) (t : List UInt8) : decodeL (enc r ++ t) = (r, (enc r).length) := by
  rw [decodeL_N]
  by_cases h1 : r < 128
  · rw [enc_one h1]
    simp only [List.cons_append, List.nil_append, List.getD_cons_zero, ofNat_toNat (show r < 256 by omega)]
    simp [decodeN, h1]
  · by_cases h2 : r < 2048
    · rw [enc_two (by omega) h2]
      simp only [List.cons_append, List.nil_append, List.getD_cons_zero, List.getD_cons_succ, ofNat_toNat (show 192 + r / 64 < 256 by omega), ofNat_toNat (show 128 + r % 64 < 256 by omega), List.length_cons, List.length_nil]
      unfold decodeN
      rw [if_neg (by omega), if_pos (by omega), if_pos (by omega)]
      exact Prod.ext (by dsimp only; omega) rfl
    · by_cases h3 : r < 65536
      · have hs := h
        unfold Sc at hs
        rw [enc_three (by omega) h3 h]
        simp only [List.cons_append, List.nil_append, List.getD_cons_zero, List.getD_cons_succ, ofNat_toNat (show 224 + r / 4096 < 256 by omega), ofNat_toNat (show 128 + r / 64 % 64 < 256 by omega), ofNat_toNat (show 128 + r % 64 < 256 by omega), List.length_cons, List.length_nil]
        unfold decodeN
        rw [if_neg (by omega), if_neg (by omega), if_pos (by omega), if_pos (by omega)]
        exact Prod.ext (by dsimp only; omega) rfl
      · have hs := h
        unfold Sc at hs
        rw [enc_four (by omega) h]
        simp only [List.cons_append, List.nil_append, List.getD_cons_zero, List.getD_cons_succ, ofNat_toNat (show 240 + r / 262144 < 256 by omega), ofNat_toNat (show 128 + r / 4096 % 64 < 256 by omega), ofNat_toNat (show 128 + r / 64 % 64 < 256 by omega), ofNat_toNat (show 128 + r % 64 < 256 by omega), List.length_cons, List.length_nil]
        unfold decodeN
        rw [if_neg (by omega), if_neg (by omega), if_neg (by omega), if_pos (by omega), if_pos (by omega)]
        exact Prod.ext (by dsimp only; omega) rfl
theorem enc_len3 (r : Nat) (h : (enc r).length = 1) : r < 128 := by
  by_cases h1 : r < 128
  · exact h1
  · by_cases h2 : r < 2048
    · rw [enc_two (by omega) h2] at h; simp at h
    · by_cases hs : Sc r
      · by_cases h3 : r < 65536
        · rw [enc_three (by omega) h3 hs] at h; simp at h
        · rw [enc_four (by omega) hs] at h; simp at h
      · unfold enc encodeRune at h
        unfold Sc at hs
        rw [encodeRuneZ_bad (by omega)] at h
        simp at h
theorem decode_enc_ne (r : Nat) (h : Sc r) (t : List UInt8) : decodeL (enc r ++ t) ≠ (65533, 1) := by
  rw [decode_enc r h t]
  intro e
  injection e with e1 e2
  have := enc_len3 r e2
  omega
/-- What is read stands for a rune. -/
theorem decode_sc (l : List UInt8) : Sc (decodeL l).1 := by
  rw [decodeL_N]
  have k0 := (l.getD 0 0).toNat_lt
  have k1 := (l.getD 1 0).toNat_lt
  have k2 := (l.getD 2 0).toNat_lt
  have k3 := (l.getD 3 0).toNat_lt
  unfold Sc
  rcases decodeN_shape l.length (l.getD 0 0).toNat (l.getD 1 0).toNat (l.getD 2 0).toNat (l.getD 3 0).toNat with ⟨c, e⟩ | ⟨c1, c2, c3, cv, e⟩ | ⟨c1, c2, c3, c4, cv, cs, e⟩ | ⟨c1, c2, c3, c4, c5, cv, cw, e⟩ | e
  all_goals (rw [e]; dsimp only; omega)

/-- The runes of a text; none if it is not UTF-8. -/
def runesF : Nat → List UInt8 → Option (List Nat)
  | 0, l => if l = [] then some [] else none
  | f + 1, l => if l = [] then some [] else if decodeL l = (65533, 1) then none else (runesF f (l.drop (decodeL l).2)).map ((decodeL l).1 :: ·)
def runes (l : List UInt8) : Option (List Nat) := runesF l.length l
@[simp] theorem runes_nil : runes [] = some [] := rfl
theorem runesF_nil (f : Nat) : runesF f [] = some [] := by cases f <;> simp [runesF]
theorem runesF_fuel : ∀ (n m : Nat) (l : List UInt8), l.length ≤ n → l.length ≤ m → runesF n l = runesF m l
  | 0, m, l, hn, _ => by
    obtain rfl : l = [] := List.eq_nil_of_length_eq_zero (by omega)
    rw [runesF_nil, runesF_nil]
  | n + 1, 0, l, _, hm => by
    obtain rfl : l = [] := List.eq_nil_of_length_eq_zero (by omega)
    rw [runesF_nil, runesF_nil]
  | n + 1, m + 1, l, hn, hm => by
    by_cases hne : l = []
    · subst hne
      rw [runesF_nil, runesF_nil]
    · have hw := decodeL_width l
      have hl : 0 < l.length := List.length_pos_iff.2 hne
      simp only [runesF, if_neg hne]
      rw [runesF_fuel n m _ (by rw [List.length_drop]; omega) (by rw [List.length_drop]; omega)]
theorem runes_bad {l : List UInt8} (h : l ≠ []) (hb : decodeL l = (65533, 1)) : runes l = none := by
  obtain ⟨n, hn⟩ : ∃ n, l.length = n + 1 := ⟨l.length - 1, by have := List.length_pos_iff.2 h; omega⟩
  unfold runes
  rw [hn]
  simp [runesF, h, hb]
theorem runes_step {l : List UInt8} (h : l ≠ []) (hb : decodeL l ≠ (65533, 1)) : runes l = (runes (l.drop (decodeL l).2)).map ((decodeL l).1 :: ·) := by
  have hw := decodeL_width l
  obtain ⟨n, hn⟩ : ∃ n, l.length = n + 1 := ⟨l.length - 1, by have := List.length_pos_iff.2 h; omega⟩
  unfold runes
  rw [hn]
  simp only [runesF, if_neg h, if_neg hb]
  rw [runesF_fuel n _ _ (by rw [List.length_drop]; omega) (Nat.le_refl _)]
theorem runes_cons (r : Nat) (h : Sc r) (t : List UInt8) : runes (enc r ++ t) = (runes t).map (r :: ·) := by
  rw [runes_step (by simp [enc_ne]) (decode_enc_ne r h t), decode_enc r h t]
  simp
theorem runes_encs_append (rs : List Nat) (h : ∀ r ∈ rs, Sc r) (t : List UInt8) : runes (encs rs ++ t) = (runes t).map (rs ++ ·) := by
  induction rs with
  | nil => simp
  | cons r rs ih =>
    rw [encs_cons, List.append_assoc, runes_cons r (h r (by simp)), ih (fun x hx => h x (by simp [hx]))]
    simp [Option.map_map, Function.comp_def]
theorem runes_encs (rs : List Nat) (h : ∀ r ∈ rs, Sc r) : runes (encs rs) = some rs := by
  have := runes_encs_append rs h []
  simpa using this
theorem runes_some_aux : ∀ (n : Nat) (l : List UInt8) (rs : List Nat), l.length ≤ n → runes l = some rs → l = encs rs ∧ ∀ r ∈ rs, Sc r
  | 0, l, rs, hn, h => by
    obtain rfl : l = [] := List.eq_nil_of_length_eq_zero (by omega)
    rw [runes_nil] at h
    injection h with h
    subst h
    simp
  | n + 1, l, rs, hn, h => by
    by_cases hne : l = []
    · subst hne
      rw [runes_nil] at h
      injection h with h
      subst h
      simp
    · by_cases hb : decodeL l = (65533, 1)
      · rw [runes_bad hne hb] at h; cases h
      · rw [runes_step hne hb] at h
        cases ht : runes (l.drop (decodeL l).2) with
        | none => rw [ht] at h; cases h
        | some ts =>
          rw [ht] at h
          simp only [Option.map_some, Option.some.injEq] at h
          subst h
          have hw := decodeL_width l
          obtain ⟨h1, h2⟩ := runes_some_aux n _ ts (by rw [List.length_drop]; omega) ht
          have he := encode_decode l hne (fun hx => hb (Prod.ext hx.1 hx.2))
          refine ⟨?_, ?_⟩
          · rw [encs_cons, ← h1]
            show l = encodeRune _ ++ _
            rw [he, List.take_append_drop]
          · intro r hr
            rcases List.mem_cons.1 hr with rfl | hr
            · exact decode_sc l
            · exact h2 r hr
theorem runes_some {l : List UInt8} {rs : List Nat} (h : runes l = some rs) : l = encs rs ∧ ∀ r ∈ rs, Sc r := runes_some_aux l.length l rs (Nat.le_refl _) h
theorem encs_len (rs : List Nat) : rs.length ≤ (encs rs).length ∧ (encs rs).length ≤ 4 * rs.length := by
  induction rs with
  | nil => simp
  | cons r rs ih =>
    have := enc_len r
    rw [encs_cons, List.length_append, List.length_cons]
    omega
/-- A text that begins with the runes rs, and goes on with a rune. -/
theorem encs_inj {rs ts : List Nat} (h : ∀ r ∈ rs, Sc r) (h' : ∀ r ∈ ts, Sc r) (he : encs rs = encs ts) : rs = ts := by
  have h1 := runes_encs rs h
  rw [he, runes_encs ts h'] at h1
  injection h1 with h1
  exact h1.symm

/-- How many runes a text has, if all of them have something. -/
def allOf (has : Nat → Bool) (l : List UInt8) : Option Nat := (runes l).bind fun rs => if rs.all has then some rs.length else none
theorem allOf_nil (has : Nat → Bool) : allOf has [] = some 0 := by simp [allOf]
theorem allOf_bad (has : Nat → Bool) {l : List UInt8} (h : l ≠ []) (hb : decodeL l = (65533, 1)) : allOf has l = none := by simp [allOf, runes_bad h hb]
theorem allOf_no (has : Nat → Bool) {l : List UInt8} (h : l ≠ []) (hb : decodeL l ≠ (65533, 1)) (hh : has (decodeL l).1 = false) : allOf has l = none := by
  unfold allOf
  rw [runes_step h hb]
  cases runes (l.drop (decodeL l).2) <;> simp [hh]
theorem allOf_step (has : Nat → Bool) {l : List UInt8} (h : l ≠ []) (hb : decodeL l ≠ (65533, 1)) (hh : has (decodeL l).1 = true) : allOf has l = (allOf has (l.drop (decodeL l).2)).map (· + 1) := by
  unfold allOf
  rw [runes_step h hb]
  cases runes (l.drop (decodeL l).2) with
  | none => rfl
  | some ts =>
    simp only [Option.map_some, Option.bind_some, List.all_cons, hh, Bool.true_and, List.length_cons]
    split <;> simp

/-- U+FFFD stands where its three bytes stand. -/
theorem fffd_prefix (l : List UInt8) (hr : (decodeL l).1 = 65533) : hasPrefix l [239, 191, 189] = decide (decodeL l ≠ (65533, 1)) := by
  by_cases hb : decodeL l = (65533, 1)
  · have hn : hasPrefix l [239, 191, 189] = false := by
      cases hp : hasPrefix l [239, 191, 189] with
      | false => rfl
      | true =>
        exfalso
        have hx : ∃ t, l = enc 65533 ++ t := by
          have he : enc 65533 = [239, 191, 189] := by rw [enc_three (by omega) (by omega) (by decide)]; rfl
          rw [he]
          have := List.isPrefixOf_iff_prefix.1 hp
          obtain ⟨t, ht⟩ := this
          exact ⟨t, ht.symm⟩
        obtain ⟨t, rfl⟩ := hx
        exact decode_enc_ne 65533 (by decide) t hb
    simp [hn, hb]
  · have hne : l ≠ [] := by
      rintro rfl
      rw [decodeL_N] at hr
      revert hr
      decide
    have he := encode_decode l hne (fun hx => hb (Prod.ext hx.1 hx.2))
    rw [hr] at he
    have h2 : encodeRune ((65533 : Nat) : Int) = [239, 191, 189] := by decide
    rw [h2] at he
    have : hasPrefix l [239, 191, 189] = true := by
      rw [he]
      exact List.isPrefixOf_iff_prefix.2 (List.take_prefix _ _)
    simp [this, hb]
end Go.Proofs.Ytkbelhhimllfnaa
