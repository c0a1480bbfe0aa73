/- Plain laws on tags: which texts are tags, their quoted forms, widths, beginnings that fit, and how a quoted form is read. No condition. -/
import Derived.Test.YtkbelhhimllfnaaText
namespace Go.Proofs.Ytkbelhhimllfnaa
open Go.Lib

/-- Which runes a tag may have. -/
def fine (r : Nat) : Bool := decide (32 ≤ r) && decide (r ≠ 127)
def isTag (l : List UInt8) : Bool := match allOf fine l with | some n => decide (1 ≤ n) && decide (n ≤ 24) | none => false
def tagErr (l : List UInt8) : Int := if isTag l then 0 else 16

/-- The runes rs make the tag l. -/
structure TagOf (rs : List Nat) (l : List UInt8) : Prop where
  text : l = encs rs
  sc : ∀ r ∈ rs, Sc r
  fine : ∀ r ∈ rs, fine r = true
  pos : 1 ≤ rs.length
  most : rs.length ≤ 24
theorem allOf_some {has : Nat → Bool} {l : List UInt8} {n : Nat} (h : allOf has l = some n) : ∃ rs, runes l = some rs ∧ (∀ r ∈ rs, has r = true) ∧ rs.length = n := by
  unfold allOf at h
  cases hr : runes l with
  | none => rw [hr] at h; cases h
  | some rs =>
    rw [hr] at h
    simp only [Option.bind_some] at h
    split at h
    · rename_i ha
      exact ⟨rs, rfl, List.all_eq_true.1 ha, by injection h⟩
    · cases h
theorem allOf_encs {has : Nat → Bool} {rs : List Nat} (h : ∀ r ∈ rs, Sc r) : allOf has (encs rs) = if rs.all has then some rs.length else none := by
  unfold allOf
  rw [runes_encs rs h]
  rfl
theorem isTag_iff {l : List UInt8} : isTag l = true ↔ ∃ rs, TagOf rs l := by
  constructor
  · intro h
    unfold isTag at h
    cases ha : allOf fine l with
    | none => rw [ha] at h; cases h
    | some n =>
      rw [ha] at h
      simp only [Bool.and_eq_true, decide_eq_true_eq] at h
      obtain ⟨rs, h1, h2, rfl⟩ := allOf_some ha
      obtain ⟨h3, h4⟩ := runes_some h1
      exact ⟨rs, h3, h4, h2, h.1, h.2⟩
  · rintro ⟨rs, rfl, h1, h2, h3, h4⟩
    unfold isTag
    rw [allOf_encs h1, if_pos (List.all_eq_true.2 h2)]
    simp [h3, h4]
theorem TagOf.isTag {rs : List Nat} {l : List UInt8} (h : TagOf rs l) : isTag l = true := isTag_iff.2 ⟨rs, h⟩
theorem TagOf.runes {rs : List Nat} {l : List UInt8} (h : TagOf rs l) : runes l = some rs := by rw [h.text, runes_encs rs h.sc]
theorem TagOf.len {rs : List Nat} {l : List UInt8} (h : TagOf rs l) : 1 ≤ l.length ∧ l.length ≤ 96 := by
  have := encs_len rs
  have h1 := h.pos
  have h2 := h.most
  rw [h.text]
  omega
theorem isTag_len {l : List UInt8} (h : isTag l = true) : 1 ≤ l.length ∧ l.length ≤ 96 := by
  obtain ⟨rs, h⟩ := isTag_iff.1 h
  exact h.len
theorem tagErr_long {l : List UInt8} (h : 96 < l.length) : tagErr l = 16 := by
  unfold tagErr
  cases ht : isTag l with
  | false => rfl
  | true => have := isTag_len ht; omega
theorem tagErr_none {l : List UInt8} (h : allOf fine l = none) : tagErr l = 16 := by
  unfold tagErr isTag
  rw [h]
  rfl
theorem tagErr_some {l : List UInt8} {n : Nat} (h : allOf fine l = some n) : tagErr l = if 1 ≤ n ∧ n ≤ 24 then 0 else 16 := by
  unfold tagErr isTag
  rw [h]
  by_cases hn : 1 ≤ n ∧ n ≤ 24
  · simp [hn]
  · rw [if_neg hn]
    have : (decide (1 ≤ n) && decide (n ≤ 24)) = false := by
      cases hd : (decide (1 ≤ n) && decide (n ≤ 24)) with
      | false => rfl
      | true => simp at hd; exact absurd hd hn
    show (if (decide (1 ≤ n) && decide (n ≤ 24)) = true then (0 : Int) else 16) = 16
    rw [this]
    rfl
theorem tagErr_zero {l : List UInt8} : tagErr l = 0 ↔ isTag l = true := by
  unfold tagErr
  cases isTag l <;> simp
theorem tagErr_or (l : List UInt8) : tagErr l = 0 ∨ tagErr l = 16 := by
  unfold tagErr
  cases isTag l <;> simp

/-- The quoted form, byte by byte. -/
def escB (b : UInt8) : List UInt8 := if b = 34 ∨ b = 92 then [92, b] else [b]
def escs (l : List UInt8) : List UInt8 := l.flatMap escB
def quoteOf (l : List UInt8) : List UInt8 := 34 :: (escs l ++ [34])
theorem escs_append (l m : List UInt8) : escs (l ++ m) = escs l ++ escs m := by simp [escs]
theorem escs_len (l : List UInt8) : (escs l).length ≤ 2 * l.length := by
  induction l with
  | nil => simp [escs]
  | cons b l ih =>
    have : (escB b).length ≤ 2 := by unfold escB; split <;> simp
    simp only [escs, List.flatMap_cons, List.length_append, List.length_cons] at *
    omega
theorem escs_high (l : List UInt8) (h : ∀ b ∈ l, 128 ≤ b.toNat) : escs l = l := by
  induction l with
  | nil => rfl
  | cons b l ih =>
    have hb := h b (by simp)
    have h1 : ¬ (b = 34 ∨ b = 92) := by
      rintro (rfl | rfl)
      · revert hb; decide
      · revert hb; decide
    have := ih (fun x hx => h x (by simp [hx]))
    simp only [escs, List.flatMap_cons, escB, if_neg h1] at *
    rw [this]
    rfl
theorem enc_high {r : Nat} (h : 128 ≤ r) (hs : Sc r) : ∀ b ∈ enc r, 128 ≤ b.toNat := by
  have hs' := hs
  unfold Sc at hs'
  intro b hb
  by_cases h2 : r < 2048
  · rw [enc_two h h2] at hb
    simp only [List.mem_cons, List.not_mem_nil, or_false] at hb
    rcases hb with rfl | rfl
    · rw [ofNat_toNat (by omega)]; omega
    · rw [ofNat_toNat (by omega)]; omega
  · by_cases h3 : r < 65536
    · rw [enc_three (by omega) h3 hs] at hb
      simp only [List.mem_cons, List.not_mem_nil, or_false] at hb
      rcases hb with rfl | rfl | rfl
      · rw [ofNat_toNat (by omega)]; omega
      · rw [ofNat_toNat (by omega)]; omega
      · rw [ofNat_toNat (by omega)]; omega
    · rw [enc_four (by omega) hs] at hb
      simp only [List.mem_cons, List.not_mem_nil, or_false] at hb
      rcases hb with rfl | rfl | rfl | rfl
      · rw [ofNat_toNat (by omega)]; omega
      · rw [ofNat_toNat (by omega)]; omega
      · rw [ofNat_toNat (by omega)]; omega
      · rw [ofNat_toNat (by omega)]; omega
/-- .. and rune by rune. -/
theorem escs_enc {r : Nat} (hs : Sc r) : escs (enc r) = (if r = 34 ∨ r = 92 then [92] else []) ++ enc r := by
  by_cases h : r < 128
  · rw [enc_one h]
    have e1 : (UInt8.ofNat r = 34) ↔ r = 34 := by
      constructor
      · intro e
        have := congrArg UInt8.toNat e
        rw [ofNat_toNat (by omega)] at this
        exact this
      · rintro rfl; rfl
    have e2 : (UInt8.ofNat r = 92) ↔ r = 92 := by
      constructor
      · intro e
        have := congrArg UInt8.toNat e
        rw [ofNat_toNat (by omega)] at this
        exact this
      · rintro rfl; rfl
    simp only [escs, List.flatMap_cons, List.flatMap_nil, escB, e1, e2, List.append_nil]
    split <;> simp
  · rw [escs_high _ (enc_high (by omega) hs), if_neg (by omega)]
    rfl

/-- How many places runes take. -/
def placesOf (r : Nat) : Nat := if r < 4352 then 1 else 2
def widthOf (rs : List Nat) : Nat := (rs.map placesOf).sum
@[simp] theorem widthOf_nil : widthOf [] = 0 := rfl
theorem widthOf_cons (r : Nat) (rs : List Nat) : widthOf (r :: rs) = placesOf r + widthOf rs := by simp [widthOf]
theorem widthOf_append (rs ts : List Nat) : widthOf (rs ++ ts) = widthOf rs + widthOf ts := by simp [widthOf]
theorem placesOf_le (r : Nat) : 1 ≤ placesOf r ∧ placesOf r ≤ 2 := by unfold placesOf; split <;> omega
theorem widthOf_le (rs : List Nat) : rs.length ≤ widthOf rs ∧ widthOf rs ≤ 2 * rs.length := by
  induction rs with
  | nil => simp
  | cons r rs ih => rw [widthOf_cons, List.length_cons]; have := placesOf_le r; omega
/-- The runes of the longest beginning that fits. -/
def cutOf : List Nat → Int → List Nat
  | [], _ => []
  | r :: rs, w => if w - placesOf r < 0 then [] else r :: cutOf rs (w - placesOf r)
theorem cutOf_prefix : ∀ (rs : List Nat) (w : Int), cutOf rs w <+: rs
  | [], _ => List.prefix_refl _
  | r :: rs, w => by
    unfold cutOf
    split
    · exact List.nil_prefix
    · rw [List.cons_prefix_cons]
      exact ⟨rfl, cutOf_prefix rs _⟩

/-- How a quoted form is read, byte by byte: whether a byte 92 stands before; what was read; how many bytes. -/
def unq : List UInt8 → Bool → List UInt8 → Nat → Option (List UInt8 × Nat)
  | [], _, _, _ => none
  | c :: cs, true, out, n => if c ≠ 34 ∧ c ≠ 92 then none else unq cs false (out ++ [c]) (n + 1)
  | c :: cs, false, out, n => if c = 92 then unq cs true out (n + 1) else if c = 34 then some (out, n + 1) else unq cs false (out ++ [c]) (n + 1)
/-- What is read, how many bytes it took, and the error. -/
def unquote (l : List UInt8) : List UInt8 × Nat × Int := match l with
  | [] => ([], 0, 9)
  | c :: cs => if c = 34 then (match unq cs false [] 1 with | none => ([], 0, 9) | some (out, n) => if isTag out then (out, n, 0) else ([], 0, 16)) else ([], 0, 9)

/-- Plain runes. -/
def plainR (r : Nat) : Bool := (decide (97 ≤ r) && decide (r ≤ 122)) || (decide (48 ≤ r) && decide (r ≤ 57)) || (decide (r = 45) || decide (r = 46) || decide (r = 95))
def plainB (l : List UInt8) : Bool := (allOf plainR l).isSome && isTag l
end Go.Proofs.Ytkbelhhimllfnaa
