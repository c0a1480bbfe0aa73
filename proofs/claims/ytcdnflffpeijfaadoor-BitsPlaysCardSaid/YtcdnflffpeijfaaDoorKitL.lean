/- Slices of booleans: the laws on slices of integers (Kit, Kit2), for booleans. No condition but the model's bounds on sizes. Printed by gen-kitl.py. -/
import Derived.Test.YtcdnflffpeijfaaDoorKit2
namespace Go.Proofs.YtcdnflffpeijfaaDoor
open Go.RowKit Go.ChangeShapes

/-- The value v is a slice whose elements read, in the world w, as the booleans xs. -/
def SlL (w : World) (v : Value) (xs : List Bool) : Prop :=
  (xs = [] ∧ ∃ a cap, v = .slice a 0 cap) ∨
  ∃ b off cap, v = .slice (some ⟨b, off, none⟩) xs.length cap ∧ xs.length ≤ maxLen ∧ b < w.heap.size ∧ 0 < xs.length ∧ ∀ i, i < xs.length → w.cell? ⟨b, off + i, none⟩ = some (.bool (xs.getD i false))

section
variable {w w' : World} {v : Value} {xs ys : List Bool} {S : List Nat}
theorem SlL.keeps (h : SlL w v xs) (k : Keeps S w w') (hn : ∀ b, v.ownBlock = some b → b ∉ S) : SlL w' v xs := by
  rcases h with h | ⟨b, off, cap, rfl, hm, hb, h0, hc⟩
  · exact .inl h
  · exact .inr ⟨b, off, cap, rfl, hm, Nat.lt_of_lt_of_le hb k.size, h0, fun i hi => (k.cell (p := ⟨b, off + i, none⟩) hb (hn b rfl)).trans (hc i hi)⟩
theorem SlL.drewN (h : SlL w v xs) (n : Nat) : SlL (w.drewN n) v xs := h
theorem SlL.nil (w : World) (a : Option Addr) (cap : Nat) : SlL w (.slice a 0 cap) [] := .inl ⟨rfl, a, cap, rfl⟩

/-- The slice v is nil, or the head of a row of the call's own that begins with the booleans xs; the row lies from block B on. -/
def OwnL (w : World) (B : Nat) (v : Value) (xs : List Bool) : Prop := w.ownsRow B 4 1 v xs.length (xs.map (Value.bool))

theorem OwnL.nil (w : World) (B : Nat) : OwnL w B (.slice none 0 0) [] := World.ownsRow_nil w B 4 1
theorem OwnL.form {B : Nat} (h : OwnL w B v xs) : (v = .slice none 0 0 ∧ xs = []) ∨ ∃ g cap cur, v = .slice (some ⟨g, 0, none⟩) xs.length cap ∧ B ≤ g ∧ Blk w g 4 cur ∧ xs.length ≤ cap ∧ cap ≤ maxLen ∧ cur.size = cap ∧ cur.toList.take xs.length = xs.map (Value.bool) := by
  rcases h.2 with ⟨h1, h2⟩ | ⟨g, cap, cur, h1, h2, h3, h4, h5, h6, h7⟩
  · exact .inl ⟨h1, List.eq_nil_of_length_eq_zero h2⟩
  · exact .inr ⟨g, cap, cur, h1, h2, h3, h4, h5, by omega, by simpa using h7⟩
theorem OwnL.base {B B' : Nat} (h : OwnL w B v xs) (hB : B' ≤ B) : OwnL w B' v xs := by
  refine ⟨h.1, ?_⟩
  rcases h.2 with h2 | ⟨g, cap, cur, h1, h2, hr⟩
  · exact .inl h2
  · exact .inr ⟨g, cap, cur, h1, by omega, hr⟩
theorem OwnL.lt {B : Nat} (h : OwnL w B v xs) : ∀ k, v.ownBlock = some k → B ≤ k ∧ k < w.heap.size := World.ownsRow.lt h
theorem OwnL.keeps {B : Nat} (h : OwnL w B v xs) (k : Keeps S w w') (hn : ∀ b, v.ownBlock = some b → b ∉ S) : OwnL w' B v xs := by
  refine ⟨h.1, ?_⟩
  rcases h.2 with h2 | ⟨g, cap, cur, h1, h2, h3, hr⟩
  · exact .inl h2
  · refine .inr ⟨g, cap, cur, h1, h2, ?_, hr⟩
    have hb : Blk w g 4 cur := h3
    exact hb.keeps k (hn g (by rw [h1]; rfl))
theorem OwnL.drewN {B : Nat} (h : OwnL w B v xs) (n : Nat) : OwnL (w.drewN n) B v xs := h
theorem OwnL.alloc {B : Nat} (h : OwnL w B v xs) (o : Obj) : OwnL (w.alloc o) B v xs := World.ownsRow.alloc h o
theorem OwnL.sl {B : Nat} (h : OwnL w B v xs) (hm : xs.length ≤ maxLen) : SlL w v xs := by
  rcases h.form with ⟨rfl, rfl⟩ | ⟨g, cap, cur, rfl, _, hb, _, _, _, ht⟩
  · exact SlL.nil _ _ _
  · rcases Nat.eq_zero_or_pos xs.length with h0 | h0
    · obtain rfl := List.eq_nil_of_length_eq_zero h0
      exact SlL.nil _ _ _
    · refine .inr ⟨g, 0, cap, rfl, hm, hb.lt, h0, fun i hi => ?_⟩
      rw [Nat.zero_add, hb.cell i]
      have : (cur.toList.take xs.length)[i]? = (xs.map (Value.bool))[i]? := by rw [ht]
      rw [List.getElem?_take, if_pos hi] at this
      simpa [List.getElem?_eq_getElem hi] using this
end


section
variable {P : Program} {w : World}

theorem bool_oneCell (zs : List Bool) : ∀ u ∈ zs.map (Value.bool), u.oneCell' = true := by
  intro u hu
  obtain ⟨_, _, rfl⟩ := List.mem_map.1 hu
  rfl

theorem run_append_slL (t ty : TypeId) (B : Nat) (ht : P.underlying t = some (.slice 4)) (hinfo : (P.info? 4).map (fun i => (i.zero, i.size, i.bytes)) = some (some (.bool false), 1, 1))
    {v u : Value} {xs ys : List Bool} (hv : OwnL w B v xs) (hu : SlL w u ys) (hm : (xs.length + ys.length) * 1 ≤ 140737488355328) (hB : B ≤ w.heap.size) :
    ∃ v' w', (Builtin.append_ #[t, t] ty #[v, u]).run P w = .ok v' w' ∧ OwnL w' B v' (xs ++ ys) ∧ w.grownBy w' v.ownBlock ∧ (v'.ownBlock = v.ownBlock ∨ v'.ownBlock = some w.heap.size) := by
  obtain ⟨i0, hi, hz0, hz1, hz2⟩ := info_parts hinfo
  have fin : ∀ (ad : Addr) (c : Nat), (∀ j u, (ys.map (Value.bool))[j]? = some u → w.cell? (ad.add j) = some u) →
      ∃ v' w', (Builtin.append_ #[t, t] ty #[v, .slice (some ad) ys.length c]).run P w = .ok v' w' ∧ OwnL w' B v' (xs ++ ys) ∧ w.grownBy w' v.ownBlock ∧ (v'.ownBlock = v.ownBlock ∨ v'.ownBlock = some w.heap.size) := fun ad c hc => by
    obtain ⟨v', w', hr, h2, h3, _, h5⟩ := run_append_own_at (P := P) w B t ty 4 i0 (.bool false) 1 1 ht hi hz0 hz1 hz2 rfl (by decide) v xs.length (xs.map (Value.bool)) hv ad ys.length c (ys.map (Value.bool)) (by simp) hc (bool_oneCell ys) (by unfold maxLen; omega) hm hB
    exact ⟨v', w', hr, by unfold OwnL; simpa using h2, h3, h5⟩
  rcases hu with ⟨rfl, a, cap, rfl⟩ | ⟨b, off, cap, rfl, hlen, hb, h0, hc⟩
  · rcases a with _ | ad
    · have hrun : (Builtin.append_ #[t, t] ty #[v, .slice none 0 cap]).run P w = .ok v w := by
        rcases hv.2 with ⟨rfl, _⟩ | ⟨g, cap', cur, rfl, _, _, hnc, _⟩
        · simp [Builtin.append_, run_underlying ht, sizeOf, typeInfo, hi, Builtin.lenOf, Builtin.firstCells]
        · simp [Builtin.append_, run_underlying ht, sizeOf, typeInfo, hi, Builtin.lenOf, Builtin.firstCells, hnc, storeCells]
      exact ⟨v, w, hrun, by simpa using hv, World.grownBy.refl w _, .inl rfl⟩
    · exact fin ad cap (fun j u hj => by simp at hj)
  · refine fin ⟨b, off, none⟩ cap (fun j u hj => ?_)
    have hjl : j < ys.length := by
      rcases Nat.lt_or_ge j ys.length with h | h
      · exact h
      · rw [List.getElem?_eq_none (by simpa using h)] at hj; cases hj
    have hadd : (⟨b, off, none⟩ : Addr).add j = ⟨b, off + j, none⟩ := by unfold Addr.add; split <;> simp_all
    rw [hadd, hc j hjl]
    simp [List.getElem?_eq_getElem hjl] at hj ⊢
    exact hj

theorem wpList_append_slL {ops : Array Oper} {rest : List Oper} {o : Oper} {a : Act} {Q : Exit → Act → World → Prop} (hgd : o.guard = none) (s x : Operand) (t : TypeId)
    (ho : o.op = .call { callee := .builtin .append, args := #[s, x], argTypes := #[t, t] })
    (B : Nat) (ht : P.underlying t = some (.slice 4)) (hinfo : (P.info? 4).map (fun i => (i.zero, i.size, i.bytes)) = some (some (.bool false), 1, 1))
    {v u : Value} {xs ys : List Bool} (hs : a.eval s = v) (hx : a.eval x = u) (hv : OwnL w B v xs) (hu : SlL w u ys) (hm : (xs.length + ys.length) * 1 ≤ 140737488355328) (hB : B ≤ w.heap.size)
    (h : ∀ v' w', OwnL w' B v' (xs ++ ys) → w.grownBy w' v.ownBlock → (v'.ownBlock = v.ownBlock ∨ v'.ownBlock = some w.heap.size) → wpList P ops Q rest (a.put o.dst v') w') : wpList P ops Q (o :: rest) a w := by
  refine wpList_plain hgd fun K hK => ?_
  obtain ⟨v', w', hr, h2, h3, h5⟩ := run_append_slL (P := P) t o.type B ht hinfo hv hu hm hB
  unfold Oper.wp execOp
  simp only [ho, resolve, invoke, builtin, Sem.run_bind, Sem.run_pure, Result.andThen_ok, List.map_toArray, List.map_cons, List.map_nil, hs, hx, hr]
  exact hK _ _ (h v' w' h2 h3 h5)


end

theorem OwnL.shape {w : World} {B : Nat} {v : Value} {xs : List Bool} (h : OwnL w B v xs) : ∃ a cap, v = .slice a xs.length cap := by
  rcases h.form with ⟨rfl, rfl⟩ | ⟨g, cap, cur, rfl, _⟩
  · exact ⟨none, 0, rfl⟩
  · exact ⟨_, cap, rfl⟩

end Go.Proofs.YtcdnflffpeijfaaDoor
