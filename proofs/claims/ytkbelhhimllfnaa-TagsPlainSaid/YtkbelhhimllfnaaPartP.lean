/- Plain laws on texts that are cut: where the next rune does not fit, and cut twice. No condition. -/
import Derived.Test.YtkbelhhimllfnaaWorks
namespace Go.Proofs.Ytkbelhhimllfnaa
open Go.Lib

theorem cutOf_fits : ∀ (rs : List Nat) (w : Int), 0 ≤ w → (widthOf (cutOf rs w) : Int) ≤ w
  | [], w, h => by simpa [cutOf] using h
  | r :: rs, w, h => by
    unfold cutOf
    split
    · simpa using h
    · rename_i hp
      have := cutOf_fits rs (w - placesOf r) (by omega)
      rw [widthOf_cons]
      omega
theorem cutOf_next : ∀ (rs : List Nat) (w : Int) (r : Nat) (ts : List Nat), rs = cutOf rs w ++ r :: ts → w < (widthOf (cutOf rs w) : Int) + placesOf r
  | [], w, r, ts, h => by simp [cutOf] at h
  | q :: rs, w, r, ts, h => by
    unfold cutOf at h ⊢
    split at h
    · rename_i hp
      rw [if_pos hp]
      injection h with h1 _
      subst h1
      simp
      omega
    · rename_i hp
      rw [if_neg hp]
      rw [List.cons_append] at h
      injection h with _ h2
      have := cutOf_next rs (w - placesOf q) r ts h2
      rw [widthOf_cons]
      omega
theorem cutOf_twice : ∀ (rs : List Nat) (w v : Int), cutOf rs (min w v) = cutOf (cutOf rs w) v
  | [], w, v => rfl
  | r :: rs, w, v => by
    rw [cutOf]
    by_cases hw : w - placesOf r < 0
    · rw [if_pos (by omega), show cutOf (r :: rs) w = [] by rw [cutOf, if_pos hw]]
      rfl
    · rw [show cutOf (r :: rs) w = r :: cutOf rs (w - placesOf r) by rw [cutOf, if_neg hw], cutOf]
      by_cases hv : v - placesOf r < 0
      · rw [if_pos (by omega), if_pos hv]
      · rw [if_neg (by omega), if_neg hv, ← cutOf_twice rs (w - placesOf r) (v - placesOf r)]
        congr 2
        omega
theorem cutOf_all : ∀ (rs : List Nat) (w : Int), (widthOf rs : Int) ≤ w → cutOf rs w = rs
  | [], _, _ => rfl
  | r :: rs, w, h => by
    rw [widthOf_cons] at h
    rw [cutOf, if_neg (by omega), cutOf_all rs _ (by omega)]
/-- Where the k-th rune begins. -/
def startOf (rs : List Nat) (k : Nat) : Nat := (encs (rs.take k)).length
theorem take_next (rs : List Nat) {k : Nat} (h : k < rs.length) : rs.take (k + 1) = rs.take k ++ [rs.getD k 0] := by
  rw [List.take_succ_eq_append_getElem h]
  simp [List.getElem?_eq_getElem h]
theorem startOf_step (rs : List Nat) {k : Nat} (h : k < rs.length) : startOf rs (k + 1) = startOf rs k + (enc (rs.getD k 0)).length := by
  unfold startOf
  rw [take_next rs h, encs_snoc, List.length_append]
theorem startOf_mono (rs : List Nat) {j k : Nat} (h : j < k) (hk : k ≤ rs.length) : startOf rs j < startOf rs k := by
  induction k with
  | zero => omega
  | succ k ih =>
    have := startOf_step rs (k := k) (by omega)
    have := enc_len (rs.getD k 0)
    rcases Nat.lt_or_ge j k with hj | hj
    · have := ih hj (by omega); omega
    · have : j = k := by omega
      subst this; omega
theorem split_at (rs : List Nat) {k : Nat} (h : k < rs.length) : rs = rs.take k ++ rs.getD k 0 :: rs.drop (k + 1) := by
  have e : rs.take (k + 1) ++ rs.drop (k + 1) = rs := List.take_append_drop _ _
  rw [take_next rs h, List.append_assoc] at e
  exact e.symm
theorem TagOf.sub {rs : List Nat} {l : List UInt8} (h : TagOf rs l) {ts : List Nat} (hp : ts <+: rs) (hne : ts ≠ []) : TagOf ts (encs ts) where
  text := rfl
  sc := fun r hr => h.sc r (hp.subset hr)
  fine := fun r hr => h.fine r (hp.subset hr)
  pos := List.length_pos_iff.2 hne
  most := Nat.le_trans hp.length_le h.most
end Go.Proofs.Ytkbelhhimllfnaa
