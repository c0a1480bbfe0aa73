/- Plain laws for the reference: the order of texts by their runes is that by their bytes; plain texts, byte by byte. No condition. -/
import Derived.Test.YtkbelhhimllfnaaSortP
import Derived.Test.YtkbelhhimllfnaaPartP
namespace Go.Proofs.Ytkbelhhimllfnaa
open Go.Lib

/-- The order of two lists of runes. -/
def cmpN : List Nat → List Nat → Int
  | [], [] => 0
  | [], _ :: _ => -1
  | _ :: _, [] => 1
  | a :: x, b :: y => if a < b then -1 else if a = b then cmpN x y else 1
theorem cmpR_pre : ∀ (p x y : List UInt8), cmpR (p ++ x) (p ++ y) = cmpR x y
  | [], _, _ => rfl
  | a :: p, x, y => by
    rw [List.cons_append, List.cons_append, cmpR, if_neg (by omega), if_pos rfl]
    exact cmpR_pre p x y
theorem cmpR_lt {a b : UInt8} {x y : List UInt8} (h : a.toNat < b.toNat) : cmpR (a :: x) (b :: y) = -1 := by rw [cmpR, if_pos h]
theorem cmpR_eq {a b : UInt8} {x y : List UInt8} (h : a.toNat = b.toNat) : cmpR (a :: x) (b :: y) = cmpR x y := by rw [cmpR, if_neg (by omega), if_pos h]
theorem cmpR_enc {r q : Nat} (hr : Sc r) (hq : Sc q) (h : r < q) (x y : List UInt8) : cmpR (enc r ++ x) (enc q ++ y) = -1 := by
  have hr' := hr
  have hq' := hq
  unfold Sc at hr' hq'
  by_cases q1 : q < 128
  · rw [enc_one (by omega), enc_one q1]
    exact cmpR_lt (by rw [ofNat_toNat (by omega), ofNat_toNat (by omega)]; exact h)
  by_cases q2 : q < 2048
  · rw [enc_two (by omega) q2]
    by_cases r1 : r < 128
    · rw [enc_one r1]
      exact cmpR_lt (by rw [ofNat_toNat (by omega), ofNat_toNat (by omega)]; omega)
    · rw [enc_two (by omega) (by omega)]
      by_cases h1 : r / 64 < q / 64
      · exact cmpR_lt (by rw [ofNat_toNat (by omega), ofNat_toNat (by omega)]; omega)
      · refine (cmpR_eq (by rw [ofNat_toNat (by omega), ofNat_toNat (by omega)]; omega)).trans ?_
        exact cmpR_lt (by rw [ofNat_toNat (by omega), ofNat_toNat (by omega)]; omega)
  by_cases q3 : q < 65536
  · rw [enc_three (by omega) q3 hq]
    by_cases r1 : r < 128
    · rw [enc_one r1]
      exact cmpR_lt (by rw [ofNat_toNat (by omega), ofNat_toNat (by omega)]; omega)
    · by_cases r2 : r < 2048
      · rw [enc_two (by omega) r2]
        exact cmpR_lt (by rw [ofNat_toNat (by omega), ofNat_toNat (by omega)]; omega)
      · rw [enc_three (by omega) (by omega) hr]
        by_cases h1 : r / 4096 < q / 4096
        · exact cmpR_lt (by rw [ofNat_toNat (by omega), ofNat_toNat (by omega)]; omega)
        · refine (cmpR_eq (by rw [ofNat_toNat (by omega), ofNat_toNat (by omega)]; omega)).trans ?_
          by_cases h2 : r / 64 % 64 < q / 64 % 64
          · exact cmpR_lt (by rw [ofNat_toNat (by omega), ofNat_toNat (by omega)]; omega)
          · refine (cmpR_eq (by rw [ofNat_toNat (by omega), ofNat_toNat (by omega)]; omega)).trans ?_
            exact cmpR_lt (by rw [ofNat_toNat (by omega), ofNat_toNat (by omega)]; omega)
  · rw [enc_four (by omega) hq]
    by_cases r1 : r < 128
    · rw [enc_one r1]
      exact cmpR_lt (by rw [ofNat_toNat (by omega), ofNat_toNat (by omega)]; omega)
    · by_cases r2 : r < 2048
      · rw [enc_two (by omega) r2]
        exact cmpR_lt (by rw [ofNat_toNat (by omega), ofNat_toNat (by omega)]; omega)
      · by_cases r3 : r < 65536
        · rw [enc_three (by omega) r3 hr]
          exact cmpR_lt (by rw [ofNat_toNat (by omega), ofNat_toNat (by omega)]; omega)
        · rw [enc_four (by omega) hr]
          by_cases h1 : r / 262144 < q / 262144
          · exact cmpR_lt (by rw [ofNat_toNat (by omega), ofNat_toNat (by omega)]; omega)
          · refine (cmpR_eq (by rw [ofNat_toNat (by omega), ofNat_toNat (by omega)]; omega)).trans ?_
            by_cases h2 : r / 4096 % 64 < q / 4096 % 64
            · exact cmpR_lt (by rw [ofNat_toNat (by omega), ofNat_toNat (by omega)]; omega)
            · refine (cmpR_eq (by rw [ofNat_toNat (by omega), ofNat_toNat (by omega)]; omega)).trans ?_
              by_cases h3 : r / 64 % 64 < q / 64 % 64
              · exact cmpR_lt (by rw [ofNat_toNat (by omega), ofNat_toNat (by omega)]; omega)
              · refine (cmpR_eq (by rw [ofNat_toNat (by omega), ofNat_toNat (by omega)]; omega)).trans ?_
                exact cmpR_lt (by rw [ofNat_toNat (by omega), ofNat_toNat (by omega)]; omega)
theorem cmpN_encs : ∀ (rs ts : List Nat), (∀ r ∈ rs, Sc r) → (∀ r ∈ ts, Sc r) → cmpN rs ts = cmpR (encs rs) (encs ts)
  | [], [], _, _ => rfl
  | [], t :: ts, _, _ => by
    rw [encs_cons, encs_nil, cmpN]
    cases he : enc t with
    | nil => exact absurd he (enc_ne t)
    | cons a x => rfl
  | r :: rs, [], _, _ => by
    rw [encs_cons, encs_nil, cmpN]
    cases he : enc r with
    | nil => exact absurd he (enc_ne r)
    | cons a x => rfl
  | r :: rs, t :: ts, h, h' => by
    rw [encs_cons, encs_cons, cmpN]
    have hr := h r (by simp)
    have ht := h' t (by simp)
    by_cases h1 : r < t
    · rw [if_pos h1, cmpR_enc hr ht h1]
    · by_cases h2 : r = t
      · subst h2
        rw [if_neg h1, if_pos rfl, cmpR_pre]
        exact cmpN_encs rs ts (fun x hx => h x (by simp [hx])) (fun x hx => h' x (by simp [hx]))
      · rw [if_neg h1, if_neg h2, cmpR_turn, cmpR_enc ht hr (by omega)]
        rfl
/-- The same, looked at from a place up to which both are alike. -/
theorem cmpN_at (rs ts : List Nat) (k : Nat) (h : ∀ j, j < k → rs.getD j 0 = ts.getD j 0) (h1 : k ≤ rs.length) (h2 : k ≤ ts.length) : cmpN rs ts = cmpN (rs.drop k) (ts.drop k) := by
  induction k generalizing rs ts with
  | zero => simp
  | succ k ih =>
    match rs, ts with
    | [], _ => simp at h1
    | _ :: _, [] => simp at h2
    | r :: rs, t :: ts =>
      have h0 : r = t := by have := h 0 (by omega); simpa using this
      subst h0
      rw [cmpN, if_neg (by omega), if_pos rfl, List.drop_succ_cons, List.drop_succ_cons]
      exact ih rs ts (fun j hj => by have := h (j + 1) (by omega); simpa using this) (by simpa using h1) (by simpa using h2)

/-- Plain texts, byte by byte. -/
def plainAll (l : List UInt8) : Bool := l.all fun b => plainR b.toNat
theorem plainR_low {r : Nat} (h : plainR r = true) : r < 128 := by
  simp only [plainR, Bool.or_eq_true, Bool.and_eq_true, decide_eq_true_eq] at h
  omega
theorem low_encs : ∀ l : List UInt8, (∀ b ∈ l, b.toNat < 128) → l = encs (l.map UInt8.toNat)
  | [], _ => rfl
  | b :: l, h => by
    rw [List.map_cons, encs_cons, enc_one (h b (by simp)), ← low_encs l (fun x hx => h x (by simp [hx]))]
    simp
theorem plainAll_eq (l : List UInt8) : plainAll l = (allOf plainR l).isSome := by
  cases hp : plainAll l with
  | true =>
    have h1 : ∀ b ∈ l, plainR b.toNat = true := by
      intro b hb
      exact List.all_eq_true.1 hp b hb
    have h2 := low_encs l (fun b hb => plainR_low (h1 b hb))
    have hs : ∀ r ∈ l.map UInt8.toNat, Sc r := by
      intro r hr
      obtain ⟨b, hb, rfl⟩ := List.mem_map.1 hr
      have := plainR_low (h1 b hb)
      unfold Sc
      omega
    have : (l.map UInt8.toNat).all plainR = true := by
      rw [List.all_eq_true]
      intro r hr
      obtain ⟨b, hb, rfl⟩ := List.mem_map.1 hr
      exact h1 b hb
    rw [h2, allOf_encs hs, if_pos this]
    rfl
  | false =>
    cases ha : allOf plainR l with
    | none => rfl
    | some n =>
      exfalso
      obtain ⟨rs, h1, h2, h3⟩ := allOf_some ha
      have hl := (runes_some h1).1
      have : plainAll l = true := by
        unfold plainAll
        rw [List.all_eq_true]
        intro b hb
        rw [hl] at hb
        unfold encs at hb
        obtain ⟨r, hr, hbr⟩ := List.mem_flatMap.1 hb
        have hlow := plainR_low (h2 r hr)
        rw [enc_one hlow] at hbr
        simp only [List.mem_singleton] at hbr
        rw [hbr, ofNat_toNat (by omega)]
        exact h2 r hr
      rw [this] at hp
      cases hp
theorem plainB_eq (l : List UInt8) : plainB l = (plainAll l && isTag l) := by rw [plainAll_eq]; rfl
end Go.Proofs.Ytkbelhhimllfnaa
