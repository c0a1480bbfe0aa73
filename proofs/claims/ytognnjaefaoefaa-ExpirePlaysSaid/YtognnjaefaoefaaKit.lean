/- Plain lemmas on the model's memory that the proofs of this seat share: a block that is known whole, which blocks a call may have changed, and a slice of integers that reads as a list. No condition. -/
import Derived.Test.YtognnjaefaoefaaRows
import Derived.WalkKit
import Derived.WalkSpells
import Derived.WalkLawsBesides
import Derived.Deep.QuietTactic
import Derived.BigQuiet
import Derived.BigRegion
import Derived.Deep.OwnRows
import Derived.Deep.AppendLies
import Derived.OneCell
import Derived.Lib.Hide
import Derived.WalkSmall
namespace Go.Proofs.Ytognnjaefaoefaa
open Go.RowKit

/-- Block g is just the cells cs of element type t, none of them frozen. -/
def Blk (w : World) (g : Nat) (t : TypeId) (cs : Array Value) : Prop := w.heap[g]? = some (.cells cs t (0, 0))

section
variable {w w' : World} {g : Nat} {t : TypeId} {cs : Array Value}
theorem Blk.lt (h : Blk w g t cs) : g < w.heap.size := by
  rcases Nat.lt_or_ge g w.heap.size with hlt | hge
  · exact hlt
  · unfold Blk at h; rw [Array.getElem?_eq_none hge] at h; cases h
theorem Blk.cell (h : Blk w g t cs) (i : Nat) : w.cell? ⟨g, i, none⟩ = cs[i]? := cell_of_row w g i cs t (0, 0) h
theorem Blk.cellAt (h : Blk w g t cs) (i : Nat) (v : Value) (hv : cs[i]? = some v) : w.cell? ⟨g, i, none⟩ = some v := (h.cell i).trans hv
theorem Blk.frozen (h : Blk w g t cs) (i : Nat) : w.frozen? ⟨g, i, none⟩ = false := by
  unfold Blk at h
  simp [World.frozen?, h]
theorem Blk.new (w : World) (t : TypeId) (cs : Array Value) : Blk (w.alloc (.cells cs t)) w.heap.size t cs := heap_alloc_new w _
theorem Blk.drew (h : Blk w g t cs) : Blk w.drew g t cs := h
theorem Blk.drewN (h : Blk w g t cs) (n : Nat) : Blk (w.drewN n) g t cs := h
theorem Blk.alloc (h : Blk w g t cs) (o : Obj) : Blk (w.alloc o) g t cs := (Below.heap_alloc w o g h.lt).trans h
theorem Blk.put (h : Blk w g t cs) (i : Nat) (u : Value) : Blk (w.setCell ⟨g, i, none⟩ u) g t (cs.setIfInBounds i u) := by
  unfold Blk at h ⊢
  simp [World.setCell, Array.getElem?_modify, h]
theorem Blk.far (h : Blk w g t cs) {p : Addr} (hp : g ≠ p.block) (u : Value) : Blk (w.setCell p u) g t cs := (Below.heap_setCell w p u g hp).trans h
theorem Blk.below {B : Nat} (h : Blk w g t cs) (hb : Below B w w') (hg : g < B) : Blk w' g t cs := (hb.block g hg).trans h
theorem Blk.ne {g' : Nat} {t' : TypeId} {cs' : Array Value} (h : Blk w g t cs) (h' : Blk w g' t' cs') (hne : t ≠ t') : g ≠ g' := by
  rintro rfl
  unfold Blk at h h'
  rw [h] at h'
  injection h' with h'
  injection h' with _ ht
  exact hne ht
end

/-- Of the blocks that were there, only those of the list S may have changed; the streams are as they were. -/
structure Keeps (S : List Nat) (w w' : World) : Prop where
  os : w'.os = w.os
  tape : w'.tape = w.tape
  output : w'.output = w.output
  size : w.heap.size ≤ w'.heap.size
  block : ∀ k, k < w.heap.size → k ∉ S → w'.heap[k]? = w.heap[k]?

section
variable {S T : List Nat} {a b c w w' : World}
theorem Keeps.refl (S : List Nat) (w : World) : Keeps S w w := ⟨rfl, rfl, rfl, Nat.le_refl _, fun _ _ _ => rfl⟩
theorem Keeps.trans (h : Keeps S a b) (k : Keeps S b c) : Keeps S a c :=
  ⟨k.os.trans h.os, k.tape.trans h.tape, k.output.trans h.output, Nat.le_trans h.size k.size, fun i hi hn => (k.block i (Nat.lt_of_lt_of_le hi h.size) hn).trans (h.block i hi hn)⟩
theorem Keeps.mono (h : Keeps S a b) (hs : ∀ x, x ∈ S → x ∈ T) : Keeps T a b := ⟨h.os, h.tape, h.output, h.size, fun i hi hn => h.block i hi (fun hx => hn (hs i hx))⟩
/-- What lies beyond the first world's blocks needs no mention. -/
theorem Keeps.drop (h : Keeps S a b) (hs : ∀ x, x ∈ S → x ∈ T ∨ a.heap.size ≤ x) : Keeps T a b :=
  ⟨h.os, h.tape, h.output, h.size, fun i hi hn => h.block i hi (fun hx => by exact (hs i hx).elim hn (fun h1 => by omega))⟩
/-- Two steps; what the second one may change is listed, or is new since the first world. -/
theorem Keeps.step (h : Keeps S a b) (k : Keeps T b c) (ht : ∀ x, x ∈ T → x ∈ S ∨ a.heap.size ≤ x) : Keeps S a c :=
  ⟨k.os.trans h.os, k.tape.trans h.tape, k.output.trans h.output, Nat.le_trans h.size k.size, fun i hi hn => (k.block i (Nat.lt_of_lt_of_le hi h.size) (fun hx => by exact (ht i hx).elim hn (fun h1 => by omega))).trans (h.block i hi hn)⟩
theorem Keeps.drew (h : Keeps S a w) : Keeps S a w.drew := ⟨h.os, h.tape, h.output, h.size, h.block⟩
theorem Keeps.drewN (h : Keeps S a w) (n : Nat) : Keeps S a (w.drewN n) := ⟨h.os, h.tape, h.output, h.size, h.block⟩
theorem Keeps.alloc (h : Keeps S a w) (o : Obj) : Keeps S a (w.alloc o) :=
  ⟨h.os, h.tape, h.output, Nat.le_trans h.size (by simp), fun i hi hn => (Below.heap_alloc w o i (Nat.lt_of_lt_of_le hi h.size)).trans (h.block i hi hn)⟩
theorem Keeps.setCell (h : Keeps S a w) {p : Addr} (hp : p.block ∈ S ∨ a.heap.size ≤ p.block) (u : Value) : Keeps S a (w.setCell p u) :=
  ⟨h.os, h.tape, h.output, by simpa [World.setCell] using h.size, fun i hi hn => (Below.heap_setCell w p u i (by
    rintro rfl
    rcases hp with hp | hp
    · exact hn hp
    · omega)).trans (h.block i hi hn)⟩
theorem Keeps.grown (h : Keeps S a w) {row : Option Nat} (hg : w.grownBy w' row) (hr : ∀ k, row = some k → k ∈ S ∨ a.heap.size ≤ k) : Keeps S a w' :=
  ⟨hg.os.trans h.os, hg.tape.trans h.tape, hg.output.trans h.output, Nat.le_trans h.size hg.size, fun i hi hn => (hg.block i (Nat.lt_of_lt_of_le hi h.size) (fun e => by
    rcases hr i e.symm with h1 | h1
    · exact hn h1
    · omega)).trans (h.block i hi hn)⟩
theorem Keeps.of_below (h : Below a.heap.size a b) : Keeps S a b := ⟨h.os, h.tape, h.output, h.size, fun i hi _ => h.block i hi⟩
theorem Keeps.toBelow (h : Keeps S a b) {B : Nat} (hB : B ≤ a.heap.size) (hs : ∀ x, x ∈ S → B ≤ x) : Below B a b :=
  ⟨h.os, h.tape, h.output, h.size, fun i hi => h.block i (by omega) (fun hx => by have := hs i hx; omega)⟩
theorem Keeps.below (h : Keeps [] a b) : Below a.heap.size a b := h.toBelow (Nat.le_refl _) (by simp)
theorem Keeps.grownBy (h : Keeps S a b) {row : Option Nat} (hs : ∀ x, x ∈ S → row = some x) : a.grownBy b row :=
  ⟨h.os, h.tape, h.output, h.size, fun i hi hn => h.block i hi (fun hx => hn (hs i hx).symm)⟩
theorem Blk.keeps {g : Nat} {t : TypeId} {cs : Array Value} (h : Blk w g t cs) (k : Keeps S w w') (hg : g ∉ S) : Blk w' g t cs := (k.block g h.lt hg).trans h
theorem Keeps.cell (k : Keeps S w w') {p : Addr} (hp : p.block < w.heap.size) (hn : p.block ∉ S) : w'.cell? p = w.cell? p := World.cell?_of_block (k.block p.block hp hn)
end

/-- The value v is a slice whose elements read, in the world w, as the integers xs. -/
def SlI (w : World) (v : Value) (xs : List Int) : Prop :=
  (xs = [] ∧ ∃ a cap, v = .slice a 0 cap) ∨
  ∃ b off cap, v = .slice (some ⟨b, off, none⟩) xs.length cap ∧ xs.length ≤ maxLen ∧ b < w.heap.size ∧ 0 < xs.length ∧ ∀ i, i < xs.length → w.cell? ⟨b, off + i, none⟩ = some (.int .i64 (xs.getD i 0))

section
variable {w w' : World} {v : Value} {xs ys : List Int} {S : List Nat}
theorem SlI.keeps (h : SlI w v xs) (k : Keeps S w w') (hn : ∀ b, v.ownBlock = some b → b ∉ S) : SlI w' v xs := by
  rcases h with h | ⟨b, off, cap, rfl, hm, hb, h0, hc⟩
  · exact .inl h
  · exact .inr ⟨b, off, cap, rfl, hm, Nat.lt_of_lt_of_le hb k.size, h0, fun i hi => (k.cell (p := ⟨b, off + i, none⟩) hb (hn b rfl)).trans (hc i hi)⟩
theorem SlI.drewN (h : SlI w v xs) (n : Nat) : SlI (w.drewN n) v xs := h
theorem SlI.nil (w : World) (a : Option Addr) (cap : Nat) : SlI w (.slice a 0 cap) [] := .inl ⟨rfl, a, cap, rfl⟩

/-- The slice v is nil, or the head of a row of the call's own that begins with the integers xs; the row lies from block B on. -/
def OwnI (w : World) (B : Nat) (v : Value) (xs : List Int) : Prop := w.ownsRow B 3 1 v xs.length (xs.map (Value.int .i64))

theorem OwnI.nil (w : World) (B : Nat) : OwnI w B (.slice none 0 0) [] := World.ownsRow_nil w B 3 1
theorem OwnI.form {B : Nat} (h : OwnI w B v xs) : (v = .slice none 0 0 ∧ xs = []) ∨ ∃ g cap cur, v = .slice (some ⟨g, 0, none⟩) xs.length cap ∧ B ≤ g ∧ Blk w g 3 cur ∧ xs.length ≤ cap ∧ cap ≤ maxLen ∧ cur.size = cap ∧ cur.toList.take xs.length = xs.map (Value.int .i64) := by
  rcases h.2 with ⟨h1, h2⟩ | ⟨g, cap, cur, h1, h2, h3, h4, h5, h6, h7⟩
  · exact .inl ⟨h1, List.eq_nil_of_length_eq_zero h2⟩
  · exact .inr ⟨g, cap, cur, h1, h2, h3, h4, h5, by omega, by simpa using h7⟩
theorem OwnI.base {B B' : Nat} (h : OwnI w B v xs) (hB : B' ≤ B) : OwnI w B' v xs := by
  refine ⟨h.1, ?_⟩
  rcases h.2 with h2 | ⟨g, cap, cur, h1, h2, hr⟩
  · exact .inl h2
  · exact .inr ⟨g, cap, cur, h1, by omega, hr⟩
theorem OwnI.lt {B : Nat} (h : OwnI w B v xs) : ∀ k, v.ownBlock = some k → B ≤ k ∧ k < w.heap.size := World.ownsRow.lt h
theorem OwnI.keeps {B : Nat} (h : OwnI w B v xs) (k : Keeps S w w') (hn : ∀ b, v.ownBlock = some b → b ∉ S) : OwnI w' B v xs := by
  refine ⟨h.1, ?_⟩
  rcases h.2 with h2 | ⟨g, cap, cur, h1, h2, h3, hr⟩
  · exact .inl h2
  · refine .inr ⟨g, cap, cur, h1, h2, ?_, hr⟩
    have hb : Blk w g 3 cur := h3
    exact hb.keeps k (hn g (by rw [h1]; rfl))
theorem OwnI.drewN {B : Nat} (h : OwnI w B v xs) (n : Nat) : OwnI (w.drewN n) B v xs := h
theorem OwnI.alloc {B : Nat} (h : OwnI w B v xs) (o : Obj) : OwnI (w.alloc o) B v xs := World.ownsRow.alloc h o
theorem OwnI.sl {B : Nat} (h : OwnI w B v xs) (hm : xs.length ≤ maxLen) : SlI w v xs := by
  rcases h.form with ⟨rfl, rfl⟩ | ⟨g, cap, cur, rfl, _, hb, _, _, _, ht⟩
  · exact SlI.nil _ _ _
  · rcases Nat.eq_zero_or_pos xs.length with h0 | h0
    · obtain rfl := List.eq_nil_of_length_eq_zero h0
      exact SlI.nil _ _ _
    · refine .inr ⟨g, 0, cap, rfl, hm, hb.lt, h0, fun i hi => ?_⟩
      rw [Nat.zero_add, hb.cell i]
      have : (cur.toList.take xs.length)[i]? = (xs.map (Value.int .i64))[i]? := by rw [ht]
      rw [List.getElem?_take, if_pos hi] at this
      simpa [List.getElem?_eq_getElem hi] using this
end

theorem take_last (xs : List Int) (k : Nat) (h : k < xs.length) : xs.take (k + 1) = xs.take k ++ [xs.getD k 0] := by
  rw [List.take_succ_eq_append_getElem h]
  simp [List.getElem?_eq_getElem h]


/-- A slice over a whole block of integers. -/
theorem SlI.lit {w : World} {g : Nat} {t : TypeId} {xs : List Int} {n cap : Nat} (h : Blk w g t (xs.map (Value.int .i64)).toArray) (hn : n = xs.length) (hm : xs.length ≤ maxLen) : SlI w (.slice (some ⟨g, 0, none⟩) n cap) xs := by
  subst hn
  rcases Nat.eq_zero_or_pos xs.length with h0 | h0
  · obtain rfl := List.eq_nil_of_length_eq_zero h0
    exact SlI.nil _ _ _
  · refine .inr ⟨g, 0, cap, rfl, hm, h.lt, h0, fun i hi => ?_⟩
    rw [Nat.zero_add, h.cell i]
    simp [List.getElem?_eq_getElem hi]
theorem Blk.len_le {w : World} {g : Nat} {t : TypeId} {cs : Array Value} (h : Blk w g t cs) {S : List Nat} {w' : World} (k : Keeps S w w') : g < w'.heap.size := Nat.lt_of_lt_of_le h.lt k.size

/-- An element of a literal list of integers, with what holds of all of them. -/
theorem Blk.lit_at {w : World} {g : Nat} {t : TypeId} {xs : List Int} (h : Blk w g t (xs.map (Value.int .i64)).toArray) (P : Int → Prop) (hp : ∀ x ∈ xs, P x) {k : Nat} (hk : k < xs.length) : ∃ x, w.cell? ⟨g, k, none⟩ = some (.int .i64 x) ∧ P x := by
  refine ⟨xs[k], ?_, hp _ (List.getElem_mem hk)⟩
  rw [h.cell k]
  simp [List.getElem?_eq_getElem hk]

end Go.Proofs.Ytognnjaefaoefaa
