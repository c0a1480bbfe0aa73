/- The document's queue in memory: rows of its entries (two cells), appended to. No condition. -/
import Derived.Test.YtognnjaefaoefaaPlainQ
import Derived.Test.YtognnjaefaoefaaItems
import Derived.Deep.RegionLaw
import Derived.Deep.RegionHeld3
namespace Go.Proofs.Ytognnjaefaoefaa
open Go.RowKit

/-- Block g is a row with room for cap entries that begins with the entries L. -/
structure RowR (w : World) (g cap : Nat) (L : List (Int × Int)) : Prop where
  row : ∃ cur : Array Value, Blk w g 74 cur ∧ cur.size = cap * 2 ∧ ∀ i, i < L.length * 2 → cur[i]? = (flat L)[i]?
  len : L.length ≤ cap
  cap_ : cap ≤ maxLen
section
variable {w w' : World} {g cap : Nat} {L M : List (Int × Int)} {S : List Nat}
theorem RowR.keeps (h : RowR w g cap L) (k : Keeps S w w') (hg : g ∉ S) : RowR w' g cap L := by
  obtain ⟨cur, h1, h2⟩ := h.row
  exact ⟨⟨cur, h1.keeps k hg, h2⟩, h.len, h.cap_⟩
theorem RowR.lt (h : RowR w g cap L) : g < w.heap.size := by
  obtain ⟨cur, h1, h2⟩ := h.row
  exact h1.lt
theorem RowR.cell (h : RowR w g cap L) {i : Nat} (hi : i < L.length * 2) : w.cell? ⟨g, i, none⟩ = (flat L)[i]? := by
  obtain ⟨cur, h1, h2, h3⟩ := h.row
  rw [h1.cell, h3 i hi]
theorem RowR.at_ (h : RowR w g cap L) {k : Nat} (hk : k < L.length) : w.cell? ⟨g, k * 2, none⟩ = some (.int .i64 (L.getD k (0, 0)).1) ∧ w.cell? ⟨g, k * 2 + 1, none⟩ = some (.int .i64 (L.getD k (0, 0)).2) := by
  rw [h.cell (by omega), h.cell (by omega)]
  exact flat_at L k hk
theorem RowR.some_ (h : RowR w g cap L) {i : Nat} (hi : i < cap * 2) : (w.cell? ⟨g, i, none⟩).isSome = true := by
  obtain ⟨cur, h1, h2, h3⟩ := h.row
  rw [h1.cell, Array.getElem?_eq_getElem (by omega)]
  rfl
theorem RowR.frozen (h : RowR w g cap L) (i : Nat) : w.frozen? ⟨g, i, none⟩ = false := by
  obtain ⟨cur, h1, _⟩ := h.row
  exact h1.frozen i
end

/-- The slice v is nil, or the head of a row from block B on that begins with the entries L. -/
def OwnR (w : World) (B : Nat) (v : Value) (L : List (Int × Int)) : Prop := (v = .slice none 0 0 ∧ L = []) ∨ ∃ g cap, v = .slice (some ⟨g, 0, none⟩) L.length cap ∧ B ≤ g ∧ RowR w g cap L
section
variable {w w' : World} {B : Nat} {v : Value} {L : List (Int × Int)} {S : List Nat}
theorem OwnR.owns (h : OwnR w B v L) : w.ownsRow B 74 2 v L.length (flat L) := by
  refine ⟨flat_len L, ?_⟩
  rcases h with ⟨rfl, rfl⟩ | ⟨g, cap, rfl, hB, hr⟩
  · exact .inl ⟨rfl, rfl⟩
  · obtain ⟨cur, h1, h2, h3⟩ := hr.row
    refine .inr ⟨g, cap, cur, rfl, hB, h1, hr.len, hr.cap_, h2, ?_⟩
    apply List.ext_getElem?
    intro i
    rw [List.getElem?_take]
    by_cases hi : i < L.length * 2
    · rw [if_pos hi, Array.getElem?_toList, h3 i hi]
    · rw [if_neg hi, List.getElem?_eq_none (by rw [flat_len]; omega)]
theorem OwnR.of_owns (h : w.ownsRow B 74 2 v L.length (flat L)) : OwnR w B v L := by
  rcases h.2 with ⟨h1, h2⟩ | ⟨g, cap, cur, h1, h2, h3, h4, h5, h6, h7⟩
  · exact .inl ⟨h1, List.eq_nil_of_length_eq_zero h2⟩
  · refine .inr ⟨g, cap, h1, h2, ⟨cur, h3, h6, fun i hi => ?_⟩, h4, h5⟩
    rw [← h7, List.getElem?_take, if_pos hi, Array.getElem?_toList]
theorem OwnR.shape (h : OwnR w B v L) : ∃ a cap, v = .slice a L.length cap := by
  rcases h with ⟨rfl, rfl⟩ | ⟨g, cap, rfl, _⟩
  · exact ⟨none, 0, rfl⟩
  · exact ⟨_, cap, rfl⟩
theorem OwnR.lt (h : OwnR w B v L) : ∀ x, v.ownBlock = some x → B ≤ x ∧ x < w.heap.size := by
  intro x hx
  rcases h with ⟨rfl, rfl⟩ | ⟨g, cap, rfl, hB, hr⟩
  · cases hx
  · cases hx
    exact ⟨hB, hr.lt⟩
theorem OwnR.keeps (h : OwnR w B v L) (k : Keeps S w w') (hn : ∀ x, v.ownBlock = some x → x ∉ S) : OwnR w' B v L := by
  rcases h with h | ⟨g, cap, rfl, hB, hr⟩
  · exact .inl h
  · exact .inr ⟨g, cap, rfl, hB, hr.keeps k (hn g rfl)⟩
theorem OwnR.base {B' : Nat} (h : OwnR w B v L) (hB : ∀ x, v.ownBlock = some x → B' ≤ x) : OwnR w B' v L := by
  rcases h with h | ⟨g, cap, rfl, _, hr⟩
  · exact .inl h
  · exact .inr ⟨g, cap, rfl, hB g rfl, hr⟩
theorem OwnR.nil (w : World) (B : Nat) : OwnR w B (.slice none 0 0) [] := .inl ⟨rfl, rfl⟩
end
theorem Try.info74 : (Try.prog.info? 74).map (fun i => (i.zero, i.size, i.bytes)) = some (some (.agg #[.int .i64 0, .int .i64 0]), 2, 16) := by kernel_rfl
theorem OwnR.empty {w : World} {B g : Nat} (hb : Blk w g 74 #[]) (hB : B ≤ g) : OwnR w B (.slice (some ⟨g, 0, none⟩) 0 0) [] :=
  .inr ⟨g, 0, rfl, hB, ⟨⟨#[], hb, rfl, fun i hi => by simp at hi⟩, Nat.le_refl _, by unfold maxLen; omega⟩⟩
/-- A slice that can be read as entries. -/
def SrcR (w : World) (u : Value) (M : List (Int × Int)) : Prop := (M = [] ∧ ∃ a cap, u = .slice a 0 cap) ∨ ∃ ad cap, u = .slice (some ad) M.length cap ∧ ∀ j x, (flat M)[j]? = some x → w.cell? (ad.add j) = some x
theorem SrcR.none (w : World) (a : Option Addr) (cap : Nat) : SrcR w (.slice a 0 cap) [] := .inl ⟨rfl, a, cap, rfl⟩
theorem RowR.src {w : World} {g cap : Nat} {L : List (Int × Int)} (h : RowR w g cap L) {i j : Nat} (hij : i + j ≤ L.length) (c : Nat) : SrcR w (.slice (some ⟨g, i * 2, none⟩) j c) ((L.drop i).take j) := by
  have hl : ((L.drop i).take j).length = j := by rw [List.length_take, List.length_drop]; omega
  refine .inr ⟨_, c, by rw [hl], fun t x ht => ?_⟩
  have htl : t < j * 2 := by
    have := (List.getElem?_eq_some_iff.1 ht).1
    rwa [flat_len, hl] at this
  rw [flat_take, flat_drop, List.getElem?_take, if_pos htl, List.getElem?_drop] at ht
  rw [Addr.add_lit]
  exact (h.cell (by omega)).trans ht
theorem RowR.src0 {w : World} {g cap : Nat} {L : List (Int × Int)} (h : RowR w g cap L) {j : Nat} (hij : j ≤ L.length) (c : Nat) : SrcR w (.slice (some ⟨g, 0, none⟩) j c) (L.take j) := by
  have := h.src (i := 0) (j := j) (by omega) c
  rwa [Nat.zero_mul, List.drop_zero] at this
theorem RowR.srcE {w : World} {g cap : Nat} {L : List (Int × Int)} (h : RowR w g cap L) {i : Nat} (hij : i ≤ L.length) (c : Nat) : SrcR w (.slice (some ⟨g, i * 2, none⟩) (L.length - i) c) (L.drop i) := by
  have := h.src (i := i) (j := L.length - i) (by omega) c
  rwa [List.take_of_length_le (by rw [List.length_drop]; omega)] at this
/-- append of entries. -/
theorem run_append_r {w : World} {B : Nat} {v u : Value} {L M : List (Int × Int)} (ty : TypeId) (hv : OwnR w B v L) (hu : SrcR w u M) (hm : L.length + M.length ≤ 100000) (hB : B ≤ w.heap.size) :
    ∃ v' w', (Builtin.append_ #[70, 70] ty #[v, u]).run Try.prog w = .ok v' w' ∧ OwnR w' B v' (L ++ M) ∧ w.grownBy w' v.ownBlock ∧ (v'.ownBlock = v.ownBlock ∨ v'.ownBlock = some w.heap.size) := by
  obtain ⟨i0, hi, hz0, hz1, hz2⟩ := info_parts Try.info74
  have fin : ∀ (ad : Addr) (c : Nat), (∀ j x, (flat M)[j]? = some x → w.cell? (ad.add j) = some x) →
      ∃ v' w', (Builtin.append_ #[70, 70] ty #[v, .slice (some ad) M.length c]).run Try.prog w = .ok v' w' ∧ OwnR w' B v' (L ++ M) ∧ w.grownBy w' v.ownBlock ∧ (v'.ownBlock = v.ownBlock ∨ v'.ownBlock = some w.heap.size) := fun ad c hc => by
    obtain ⟨v', w', hr, h2, h3, _, h5⟩ := run_append_own_at (P := Try.prog) w B 70 ty 74 i0 (.agg #[.int .i64 0, .int .i64 0]) 2 16 Try.underlying70 hi hz0 hz1 hz2 rfl (by decide) v L.length (flat L) hv.owns ad M.length c (flat M) (flat_len M) hc (flat_one M) (by unfold maxLen; omega) (by omega) hB
    exact ⟨v', w', hr, OwnR.of_owns (by rw [flat_append, List.length_append]; exact h2), h3, h5⟩
  rcases hu with ⟨rfl, a, cap, rfl⟩ | ⟨ad, cap, rfl, hc⟩
  · rcases a with _ | ad
    · have hrun : (Builtin.append_ #[70, 70] ty #[v, .slice none 0 cap]).run Try.prog w = .ok v w := by
        rcases hv with ⟨rfl, _⟩ | ⟨g, cap', rfl, _, hr⟩
        · simp [Builtin.append_, run_underlying Try.underlying70, sizeOf, typeInfo, hi, Builtin.lenOf, Builtin.firstCells]
        · have := hr.len
          simp [Builtin.append_, run_underlying Try.underlying70, sizeOf, typeInfo, hi, Builtin.lenOf, Builtin.firstCells, this, storeCells]
      exact ⟨v, w, hrun, by simpa using hv, World.grownBy.refl w _, .inl rfl⟩
    · exact fin ad cap (fun j u hj => by simp [flat] at hj)
  · exact fin ad cap hc
/-- What an append leaves, in terms of a world further back. -/
structure AppR (w0 w w' : World) (v' : Value) (M : List (Int × Int)) : Prop where
  own : OwnR w' w0.heap.size v' M
  keeps : Keeps [] w0 w'
theorem step_append_r {ops : Array Oper} {o : Oper} {a : Act} {w : World} {K : Act → World → Prop} {Q : Exit → Act → World → Prop} {E : Prop} (hgd : o.guard = none) (s x : Operand)
    (ho : o.op = .call { callee := .builtin .append, args := #[s, x], argTypes := #[70, 70] }) {w0 : World} {v u : Value} {L M : List (Int × Int)} (hs : a.eval s = v) (hx : a.eval x = u)
    (hv : OwnR w w0.heap.size v L) (hu : SrcR w u M) (hm : L.length + M.length ≤ 100000) (hk : Keeps [] w0 w)
    (h : ∀ v' w', AppR w0 w w' v' (L ++ M) → K (a.put o.dst v') w') :
    if Region.wanted o (yielded ops a.tmps) = true then Oper.wp Try.prog o a w K Q else E := by
  have hw : Region.wanted o (yielded ops a.tmps) = true := by simp [Region.wanted, hgd]
  rw [if_pos hw]
  obtain ⟨v', w', hr, h2, h3, h5⟩ := run_append_r o.type hv hu hm hk.size
  unfold Oper.wp execOp
  simp only [ho, resolve, invoke, builtin, Sem.run_bind, Sem.run_pure, Result.andThen_ok, List.map_toArray, List.map_cons, List.map_nil, hs, hx, hr]
  exact h v' w' ⟨h2, hk.grown h3 (fun k e => .inr (hv.lt k e).1)⟩
theorem wpList_append_r {ops : Array Oper} {rest : List Oper} {o : Oper} {a : Act} {w : World} {Q : Exit → Act → World → Prop} (hgd : o.guard = none) (s x : Operand)
    (ho : o.op = .call { callee := .builtin .append, args := #[s, x], argTypes := #[70, 70] }) {w0 : World} {v u : Value} {L M : List (Int × Int)} (hs : a.eval s = v) (hx : a.eval x = u)
    (hv : OwnR w w0.heap.size v L) (hu : SrcR w u M) (hm : L.length + M.length ≤ 100000) (hk : Keeps [] w0 w)
    (h : ∀ v' w', AppR w0 w w' v' (L ++ M) → wpList Try.prog ops Q rest (a.put o.dst v') w') : wpList Try.prog ops Q (o :: rest) a w := by
  refine wpList_plain hgd fun K hK => ?_
  obtain ⟨v', w', hr, h2, h3, h5⟩ := run_append_r o.type hv hu hm hk.size
  unfold Oper.wp execOp
  simp only [ho, resolve, invoke, builtin, Sem.run_bind, Sem.run_pure, Result.andThen_ok, List.map_toArray, List.map_cons, List.map_nil, hs, hx, hr]
  exact hK _ _ (h v' w' ⟨h2, hk.grown h3 (fun k e => .inr (hv.lt k e).1)⟩)
/-- Block b is a queue of the document with the entries L, which lie in the slice v. -/
structure RQ (w : World) (b : Nat) (v : Value) (L : List (Int × Int)) : Prop where
  blk : Blk w b 72 #[.bool true, v]
  own : OwnR w 0 v L
section
variable {w w' : World} {b : Nat} {v : Value} {L : List (Int × Int)} {S : List Nat}
theorem RQ.keeps (h : RQ w b v L) (k : Keeps S w w') (hb : b ∉ S) (hn : ∀ x, v.ownBlock = some x → x ∉ S) : RQ w' b v L := ⟨h.blk.keeps k hb, h.own.keeps k hn⟩
theorem RQ.keep0 (h : RQ w b v L) (k : Keeps [] w w') : RQ w' b v L := h.keeps k (by simp) (by simp)
theorem RQ.lt (h : RQ w b v L) : b < w.heap.size ∧ ∀ x, v.ownBlock = some x → x < w.heap.size := ⟨h.blk.lt, fun x hx => (h.own.lt x hx).2⟩
/-- A slice of the entries' own: its part ahead of i, and from i on. -/
theorem OwnR.srcT (h : OwnR w 0 v L) {a : Option Addr} {n cap : Nat} (hv : v = .slice a n cap) {i : Nat} (hi : i ≤ L.length) (c : Nat) : SrcR w (.slice a i c) (L.take i) := by
  rcases h with ⟨rfl, rfl⟩ | ⟨g, cap', rfl, _, hr⟩
  · have : i = 0 := by simpa using hi
    subst this
    exact .none _ _ _
  · injection hv with h1 h2 h3
    subst h1
    exact hr.src0 hi c
end
end Go.Proofs.Ytognnjaefaoefaa
