/- Plain lemmas on slices of entries (an id and a time: two cells): rows in memory that begin with a list of entries. No condition. -/
import Derived.Test.YtognnjaefaoefaaKit2
import Derived.Laws.IdiomCopy
import Derived.Lib.SliceRun
namespace Go.Proofs.Ytognnjaefaoefaa
open Go.RowKit

/-- The cells of entries. -/
def flat (L : List (Int × Int)) : List Value := L.flatMap fun e => [Value.int .i64 e.1, Value.int .i64 e.2]
theorem flat_nil : flat [] = [] := rfl
theorem flat_cons (e : Int × Int) (L : List (Int × Int)) : flat (e :: L) = Value.int .i64 e.1 :: Value.int .i64 e.2 :: flat L := rfl
theorem flat_len : ∀ L : List (Int × Int), (flat L).length = L.length * 2
  | [] => rfl
  | e :: L => by rw [flat_cons, List.length_cons, List.length_cons, flat_len L, List.length_cons]; omega
theorem flat_append (L M : List (Int × Int)) : flat (L ++ M) = flat L ++ flat M := by unfold flat; rw [List.flatMap_append]
theorem flat_take : ∀ (L : List (Int × Int)) (k : Nat), flat (L.take k) = (flat L).take (k * 2)
  | [], k => by simp [flat_nil]
  | e :: L, 0 => rfl
  | e :: L, k + 1 => by rw [List.take_succ_cons, flat_cons, flat_cons, flat_take L k, show (k + 1) * 2 = k * 2 + 1 + 1 by omega, List.take_succ_cons, List.take_succ_cons]
theorem flat_drop : ∀ (L : List (Int × Int)) (k : Nat), flat (L.drop k) = (flat L).drop (k * 2)
  | [], k => by simp [flat_nil]
  | e :: L, 0 => rfl
  | e :: L, k + 1 => by rw [List.drop_succ_cons, flat_cons, flat_drop L k, show (k + 1) * 2 = k * 2 + 1 + 1 by omega, List.drop_succ_cons, List.drop_succ_cons]
theorem flat_one (L : List (Int × Int)) : ∀ v ∈ flat L, v.oneCell' = true := by
  intro v hv
  obtain ⟨e, _, he⟩ := List.mem_flatMap.1 hv
  simp at he
  rcases he with rfl | rfl <;> rfl
theorem flat_at : ∀ (L : List (Int × Int)) (k : Nat), k < L.length → (flat L)[k * 2]? = some (.int .i64 (L.getD k (0, 0)).1) ∧ (flat L)[k * 2 + 1]? = some (.int .i64 (L.getD k (0, 0)).2)
  | [], k, h => by simp at h
  | e :: L, 0, _ => ⟨rfl, rfl⟩
  | e :: L, k + 1, h => by
    have := flat_at L k (by simpa using h)
    rw [flat_cons, show (k + 1) * 2 = k * 2 + 1 + 1 by omega]
    simpa using this

/-- Block g is a row with room for cap entries that begins with the entries L. -/
structure RowE (w : World) (g cap : Nat) (L : List (Int × Int)) : Prop where
  row : ∃ cur : Array Value, Blk w g 61 cur ∧ cur.size = cap * 2 ∧ ∀ i, i < L.length * 2 → cur[i]? = (flat L)[i]?
  len : L.length ≤ cap
  cap_ : cap ≤ maxLen
section
variable {w w' : World} {g cap : Nat} {L M : List (Int × Int)} {S : List Nat}
theorem RowE.keeps (h : RowE w g cap L) (k : Keeps S w w') (hg : g ∉ S) : RowE w' g cap L := by
  obtain ⟨cur, h1, h2⟩ := h.row
  exact ⟨⟨cur, h1.keeps k hg, h2⟩, h.len, h.cap_⟩
theorem RowE.lt (h : RowE w g cap L) : g < w.heap.size := by
  obtain ⟨cur, h1, h2⟩ := h.row
  exact h1.lt
theorem RowE.cell (h : RowE w g cap L) {i : Nat} (hi : i < L.length * 2) : w.cell? ⟨g, i, none⟩ = (flat L)[i]? := by
  obtain ⟨cur, h1, h2, h3⟩ := h.row
  rw [h1.cell, h3 i hi]
theorem RowE.at_ (h : RowE w g cap L) {k : Nat} (hk : k < L.length) : w.cell? ⟨g, k * 2, none⟩ = some (.int .i64 (L.getD k (0, 0)).1) ∧ w.cell? ⟨g, k * 2 + 1, none⟩ = some (.int .i64 (L.getD k (0, 0)).2) := by
  rw [h.cell (by omega), h.cell (by omega)]
  exact flat_at L k hk
theorem RowE.some_ (h : RowE w g cap L) {i : Nat} (hi : i < cap * 2) : (w.cell? ⟨g, i, none⟩).isSome = true := by
  obtain ⟨cur, h1, h2, h3⟩ := h.row
  rw [h1.cell, Array.getElem?_eq_getElem (by omega)]
  rfl
theorem RowE.frozen (h : RowE w g cap L) (i : Nat) : w.frozen? ⟨g, i, none⟩ = false := by
  obtain ⟨cur, h1, _⟩ := h.row
  exact h1.frozen i
theorem Blk.setCells {t : TypeId} : ∀ (vs : List Value) (o : Nat) (w : World) (cur : Array Value), Blk w g t cur → ∃ cur', Blk (w.setCells g o vs) g t cur' ∧ cur'.size = cur.size ∧ ∀ i, i < cur.size → cur'[i]? = if o ≤ i ∧ i < o + vs.length then vs[i - o]? else cur[i]?
  | [], o, w, cur, h => ⟨cur, h, rfl, fun i _ => by rw [if_neg (by simp)]⟩
  | v :: r, o, w, cur, h => by
    obtain ⟨c, h1, h2, h3⟩ := Blk.setCells r (o + 1) _ _ (h.put o v)
    refine ⟨c, h1, by simpa using h2, fun i hi => ?_⟩
    rw [h3 i (by simpa using hi), List.length_cons]
    by_cases e1 : o + 1 ≤ i ∧ i < o + 1 + r.length
    · rw [if_pos e1, if_pos (by omega), show i - o = (i - (o + 1)) + 1 by omega, List.getElem?_cons_succ]
    · rw [if_neg e1, Array.getElem?_setIfInBounds]
      by_cases e2 : o = i
      · subst e2
        rw [if_pos rfl, if_pos hi, if_pos (by omega), Nat.sub_self]
        rfl
      · rw [if_neg e2, if_neg (by omega)]
/-- Cells are written over. -/
theorem RowE.over (h : RowE w g cap L) {o : Nat} {vs : List Value} (hM : M.length ≤ cap)
    (he : ∀ i, i < M.length * 2 → (o ≤ i ∧ i < o + vs.length ∧ (flat M)[i]? = vs[i - o]?) ∨ (¬ (o ≤ i ∧ i < o + vs.length) ∧ i < L.length * 2 ∧ (flat M)[i]? = (flat L)[i]?)) : RowE (w.setCells g o vs) g cap M := by
  obtain ⟨cur, h1, h2, h3⟩ := h.row
  obtain ⟨c, k1, k2, k3⟩ := h1.setCells vs o w cur
  refine ⟨⟨c, k1, by omega, fun i hi => ?_⟩, hM, h.cap_⟩
  rw [k3 i (by omega)]
  rcases he i hi with ⟨e1, e2, e3⟩ | ⟨e1, e2, e3⟩
  · rw [if_pos ⟨e1, e2⟩, e3]
  · rw [if_neg e1, h3 i e2, e3]
theorem Keeps.setCells {a : World} (hg : g ∈ S ∨ a.heap.size ≤ g) : ∀ (vs : List Value) (o : Nat) (w : World), Keeps S a w → Keeps S a (w.setCells g o vs)
  | [], _, _, h => h
  | v :: vs, o, w, h => Keeps.setCells hg vs (o + 1) (w.setCell ⟨g, o, none⟩ v) (h.setCell hg v)
end

/-- The slice v is nil, or the head of a row from block B on that begins with the entries L. -/
def OwnE (w : World) (B : Nat) (v : Value) (L : List (Int × Int)) : Prop := (v = .slice none 0 0 ∧ L = []) ∨ ∃ g cap, v = .slice (some ⟨g, 0, none⟩) L.length cap ∧ B ≤ g ∧ RowE w g cap L
section
variable {w w' : World} {B : Nat} {v : Value} {L : List (Int × Int)} {S : List Nat}
theorem OwnE.owns (h : OwnE w B v L) : w.ownsRow B 61 2 v L.length (flat L) := by
  refine ⟨flat_len L, ?_⟩
  rcases h with ⟨rfl, rfl⟩ | ⟨g, cap, rfl, hB, hr⟩
  · exact .inl ⟨rfl, rfl⟩
  · obtain ⟨cur, h1, h2, h3⟩ := hr.row
    refine .inr ⟨g, cap, cur, rfl, hB, h1, hr.len, hr.cap_, h2, ?_⟩
    apply List.ext_getElem?
    intro i
    rw [List.getElem?_take]
    by_cases hi : i < L.length * 2
    · rw [if_pos hi, Array.getElem?_toList, h3 i hi]
    · rw [if_neg hi, List.getElem?_eq_none (by rw [flat_len]; omega)]
theorem OwnE.of_owns (h : w.ownsRow B 61 2 v L.length (flat L)) : OwnE w B v L := by
  rcases h.2 with ⟨h1, h2⟩ | ⟨g, cap, cur, h1, h2, h3, h4, h5, h6, h7⟩
  · exact .inl ⟨h1, List.eq_nil_of_length_eq_zero h2⟩
  · refine .inr ⟨g, cap, h1, h2, ⟨cur, h3, h6, fun i hi => ?_⟩, h4, h5⟩
    rw [← h7, List.getElem?_take, if_pos hi, Array.getElem?_toList]
theorem OwnE.shape (h : OwnE w B v L) : ∃ a cap, v = .slice a L.length cap := by
  rcases h with ⟨rfl, rfl⟩ | ⟨g, cap, rfl, _⟩
  · exact ⟨none, 0, rfl⟩
  · exact ⟨_, cap, rfl⟩
theorem OwnE.lt (h : OwnE w B v L) : ∀ x, v.ownBlock = some x → B ≤ x ∧ x < w.heap.size := by
  intro x hx
  rcases h with ⟨rfl, rfl⟩ | ⟨g, cap, rfl, hB, hr⟩
  · cases hx
  · cases hx
    exact ⟨hB, hr.lt⟩
theorem OwnE.keeps (h : OwnE w B v L) (k : Keeps S w w') (hn : ∀ x, v.ownBlock = some x → x ∉ S) : OwnE w' B v L := by
  rcases h with h | ⟨g, cap, rfl, hB, hr⟩
  · exact .inl h
  · exact .inr ⟨g, cap, rfl, hB, hr.keeps k (hn g rfl)⟩
theorem OwnE.base {B' : Nat} (h : OwnE w B v L) (hB : ∀ x, v.ownBlock = some x → B' ≤ x) : OwnE w B' v L := by
  rcases h with h | ⟨g, cap, rfl, _, hr⟩
  · exact .inl h
  · exact .inr ⟨g, cap, rfl, hB g rfl, hr⟩
theorem OwnE.nil (w : World) (B : Nat) : OwnE w B (.slice none 0 0) [] := .inl ⟨rfl, rfl⟩
end
end Go.Proofs.Ytognnjaefaoefaa
