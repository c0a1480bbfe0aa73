/- find: the index of an id; valid; Len; Next; When. Condition: a queue that was made. -/
import Derived.Test.YtognnjaefaoefaaInsert2
namespace Go.Proofs.Ytognnjaefaoefaa
open Go.RowKit

/-- Block b is a queue whose list is the slice v of the entries L. -/
structure IsQ (w : World) (b : Nat) (v : Value) (L : List (Int × Int)) : Prop where
  blk : Blk w b 51 #[.bool true, v]
  own : OwnE w 0 v L
section
variable {w w' : World} {b : Nat} {v : Value} {L : List (Int × Int)} {S : List Nat}
theorem IsQ.keeps (h : IsQ w b v L) (k : Keeps S w w') (hb : b ∉ S) (hv : ∀ x, v.ownBlock = some x → x ∉ S) : IsQ w' b v L := ⟨h.blk.keeps k hb, h.own.keeps k hv⟩
theorem IsQ.keep0 (h : IsQ w b v L) (k : Keeps [] w w') : IsQ w' b v L := h.keeps k (by simp) (by simp)
theorem IsQ.ne (h : IsQ w b v L) : ∀ x, v.ownBlock = some x → b ≠ x := by
  intro x hx
  rcases h.own with ⟨rfl, _⟩ | ⟨g, cap, rfl, _, hr⟩
  · cases hx
  · cases hx
    obtain ⟨cur, hc, _⟩ := hr.row
    exact h.blk.ne hc (by decide)
theorem IsQ.lt (h : IsQ w b v L) : b < w.heap.size ∧ ∀ x, v.ownBlock = some x → x < w.heap.size := ⟨h.blk.lt, fun x hx => (h.own.lt x hx).2⟩
end
/-- An entry's place. -/
def placeOf (L : List (Int × Int)) (id : Int) : Nat := L.findIdx fun e => e.1 == id
def findI (L : List (Int × Int)) (id : Int) : Int := if placeOf L id < L.length then (placeOf L id : Int) else -1
theorem place_here {L : List (Int × Int)} {id : Int} {k : Nat} (hk : k < L.length) (h : k ≤ placeOf L id) (e : (L.getD k (0, 0)).1 = id) : placeOf L id = k := by
  rcases Nat.lt_or_ge k (placeOf L id) with h1 | h1
  · have := List.not_of_lt_findIdx h1
    rw [List.getD_eq_getElem?_getD, List.getElem?_eq_getElem hk] at e
    simp at this e
    exact absurd e this
  · omega
theorem place_on {L : List (Int × Int)} {id : Int} {k : Nat} (hk : k < L.length) (h : k ≤ placeOf L id) (e : (L.getD k (0, 0)).1 ≠ id) : k + 1 ≤ placeOf L id := by
  rcases Nat.lt_or_ge k (placeOf L id) with h1 | h1
  · exact h1
  · have h2 : placeOf L id = k := by omega
    have h3 : placeOf L id < L.length := by omega
    have := List.findIdx_getElem (w := h3)
    simp at this
    rw [List.getD_eq_getElem?_getD, List.getElem?_eq_getElem hk] at e
    simp at e
    exfalso
    apply e
    rw [← this]
    congr 1
    · simp only [← h2]; rfl
end Go.Proofs.Ytognnjaefaoefaa
