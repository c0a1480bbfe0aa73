/- Append of a slice that reads as a list onto a slice of the call's own; arguments that are slices of integers. No condition but the model's bounds on sizes. -/
import Derived.Test.YtognnjaefaoefaaKit
import Derived.Maps.AppendAt
import Derived.ProofKit
import Derived.Laws.OwnMore
namespace Go.Proofs.Ytognnjaefaoefaa
open Go.RowKit Go.ChangeShapes

section
variable {P : Program} {w : World}

theorem int_oneCell (zs : List Int) : ∀ u ∈ zs.map (Value.int .i64), u.oneCell' = true := by
  intro u hu
  obtain ⟨_, _, rfl⟩ := List.mem_map.1 hu
  rfl

theorem run_append_sl (t ty : TypeId) (B : Nat) (ht : P.underlying t = some (.slice 3)) (hinfo : (P.info? 3).map (fun i => (i.zero, i.size, i.bytes)) = some (some (.int .i64 0), 1, 8))
    {v u : Value} {xs ys : List Int} (hv : OwnI w B v xs) (hu : SlI w u ys) (hm : (xs.length + ys.length) * 8 ≤ 140737488355328) (hB : B ≤ w.heap.size) :
    ∃ v' w', (Builtin.append_ #[t, t] ty #[v, u]).run P w = .ok v' w' ∧ OwnI w' B v' (xs ++ ys) ∧ w.grownBy w' v.ownBlock ∧ (v'.ownBlock = v.ownBlock ∨ v'.ownBlock = some w.heap.size) := by
  obtain ⟨i0, hi, hz0, hz1, hz2⟩ := info_parts hinfo
  have fin : ∀ (ad : Addr) (c : Nat), (∀ j u, (ys.map (Value.int .i64))[j]? = some u → w.cell? (ad.add j) = some u) →
      ∃ v' w', (Builtin.append_ #[t, t] ty #[v, .slice (some ad) ys.length c]).run P w = .ok v' w' ∧ OwnI w' B v' (xs ++ ys) ∧ w.grownBy w' v.ownBlock ∧ (v'.ownBlock = v.ownBlock ∨ v'.ownBlock = some w.heap.size) := fun ad c hc => by
    obtain ⟨v', w', hr, h2, h3, _, h5⟩ := run_append_own_at (P := P) w B t ty 3 i0 (.int .i64 0) 1 8 ht hi hz0 hz1 hz2 rfl (by decide) v xs.length (xs.map (Value.int .i64)) hv ad ys.length c (ys.map (Value.int .i64)) (by simp) hc (int_oneCell ys) (by unfold maxLen; omega) hm hB
    exact ⟨v', w', hr, by unfold OwnI; simpa using h2, h3, h5⟩
  rcases hu with ⟨rfl, a, cap, rfl⟩ | ⟨b, off, cap, rfl, hlen, hb, h0, hc⟩
  · rcases a with _ | ad
    · have hrun : (Builtin.append_ #[t, t] ty #[v, .slice none 0 cap]).run P w = .ok v w := by
        rcases hv.2 with ⟨rfl, _⟩ | ⟨g, cap', cur, rfl, _, _, hnc, _⟩
        · simp [Builtin.append_, run_underlying ht, sizeOf, typeInfo, hi, Builtin.lenOf, Builtin.firstCells]
        · simp [Builtin.append_, run_underlying ht, sizeOf, typeInfo, hi, Builtin.lenOf, Builtin.firstCells, hnc, storeCells]
      exact ⟨v, w, hrun, by simpa using hv, World.grownBy.refl w _, .inl rfl⟩
    · exact fin ad cap (fun j u hj => by simp at hj)
  · refine fin ⟨b, off, none⟩ cap (fun j u hj => ?_)
    have hjl : j < ys.length := by
      rcases Nat.lt_or_ge j ys.length with h | h
      · exact h
      · rw [List.getElem?_eq_none (by simpa using h)] at hj; cases hj
    have hadd : (⟨b, off, none⟩ : Addr).add j = ⟨b, off + j, none⟩ := by unfold Addr.add; split <;> simp_all
    rw [hadd, hc j hjl]
    simp [List.getElem?_eq_getElem hjl] at hj ⊢
    exact hj

theorem wpList_append_sl {ops : Array Oper} {rest : List Oper} {o : Oper} {a : Act} {Q : Exit → Act → World → Prop} (hgd : o.guard = none) (s x : Operand) (t : TypeId)
    (ho : o.op = .call { callee := .builtin .append, args := #[s, x], argTypes := #[t, t] })
    (B : Nat) (ht : P.underlying t = some (.slice 3)) (hinfo : (P.info? 3).map (fun i => (i.zero, i.size, i.bytes)) = some (some (.int .i64 0), 1, 8))
    {v u : Value} {xs ys : List Int} (hs : a.eval s = v) (hx : a.eval x = u) (hv : OwnI w B v xs) (hu : SlI w u ys) (hm : (xs.length + ys.length) * 8 ≤ 140737488355328) (hB : B ≤ w.heap.size)
    (h : ∀ v' w', OwnI w' B v' (xs ++ ys) → w.grownBy w' v.ownBlock → (v'.ownBlock = v.ownBlock ∨ v'.ownBlock = some w.heap.size) → wpList P ops Q rest (a.put o.dst v') w') : wpList P ops Q (o :: rest) a w := by
  refine wpList_plain hgd fun K hK => ?_
  obtain ⟨v', w', hr, h2, h3, h5⟩ := run_append_sl (P := P) t o.type B ht hinfo hv hu hm hB
  unfold Oper.wp execOp
  simp only [ho, resolve, invoke, builtin, Sem.run_bind, Sem.run_pure, Result.andThen_ok, List.map_toArray, List.map_cons, List.map_nil, hs, hx, hr]
  exact hK _ _ (h v' w' h2 h3 h5)

/-- The same where the operation has a guard that says 'go on'. -/
theorem wpList_append_slG {ops : Array Oper} {rest : List Oper} {o : Oper} {a : Act} {Q : Exit → Act → World → Prop} (hgd : Region.wanted o (yielded ops a.tmps) = true) (s x : Operand) (t : TypeId)
    (ho : o.op = .call { callee := .builtin .append, args := #[s, x], argTypes := #[t, t] })
    (B : Nat) (ht : P.underlying t = some (.slice 3)) (hinfo : (P.info? 3).map (fun i => (i.zero, i.size, i.bytes)) = some (some (.int .i64 0), 1, 8))
    {v u : Value} {xs ys : List Int} (hs : a.eval s = v) (hx : a.eval x = u) (hv : OwnI w B v xs) (hu : SlI w u ys) (hm : (xs.length + ys.length) * 8 ≤ 140737488355328) (hB : B ≤ w.heap.size)
    (h : ∀ v' w', OwnI w' B v' (xs ++ ys) → w.grownBy w' v.ownBlock → (v'.ownBlock = v.ownBlock ∨ v'.ownBlock = some w.heap.size) → wpList P ops Q rest (a.put o.dst v') w') : wpList P ops Q (o :: rest) a w := by
  refine wpList_step fun K hK => ?_
  rw [if_pos hgd]
  obtain ⟨v', w', hr, h2, h3, h5⟩ := run_append_sl (P := P) t o.type B ht hinfo hv hu hm hB
  unfold Oper.wp execOp
  simp only [ho, resolve, invoke, builtin, Sem.run_bind, Sem.run_pure, Result.andThen_ok, List.map_toArray, List.map_cons, List.map_nil, hs, hx, hr]
  exact hK _ _ (h v' w' h2 h3 h5)
end

/-- An argument that is a slice of integers of kind k: it is empty, or its elements lie in a row and fit the kind. -/
def ArgI (k : IntKind) (w : World) (v : Value) (zs : List Int) : Prop :=
  (∀ z ∈ zs, (Lit.int k z).wf = true) ∧
  ((zs = [] ∧ ∃ a cap, v = .slice a 0 cap) ∨
  ∃ b off cap, v = .slice (some ⟨b, off, none⟩) zs.length cap ∧ zs.length ≤ cap ∧ cap ≤ maxLen ∧ b < w.heap.size ∧ 0 < zs.length ∧ ∀ i, i < zs.length → w.cell? ⟨b, off + i, none⟩ = some (.int k (zs.getD i 0)))

theorem argI_of {H : Type} {enc : TypeId × Value → H} {P : Program} {w : World} {base : Nat} {spare : Nat → Bool} {held : Bool} {t e : TypeId} {k : IntKind} {a : Option Addr} {len cap : Nat} {d : DataW H} {p : List MemPlace}
    (ht : P.underlying t = some (.slice e)) (he : P.underlying e = some (.int k)) (hc : P.cellsOf e = 1) (h : DataW.Trod enc P w base spare held t (.slice a len cap) d p) : ∃ zs, ArgI k w (.slice a len cap) zs := by
  obtain ⟨fuel, hf⟩ := h
  rcases open_ints ht he hc hf with ⟨hcs, _⟩ | ⟨x, l, c, zs, hcs, _, hl, hm, hz, _, hcell, hwz⟩
  · simp [Value.cells] at hcs
    obtain ⟨rfl, rfl, rfl⟩ := hcs
    exact ⟨[], by simp, .inl ⟨rfl, none, 0, rfl⟩⟩
  · simp [Value.cells] at hcs
    obtain ⟨rfl, rfl, rfl⟩ := hcs
    refine ⟨zs.take len, fun z hz' => hwz z (List.mem_of_mem_take hz'), ?_⟩
    have hlen : len ≤ zs.length := by
      have h1 := hz
      split at h1 <;> omega
    have hl2 : (zs.take len).length = len := by rw [List.length_take]; omega
    rcases Nat.eq_zero_or_pos len with h0 | h0
    · subst h0
      exact .inl ⟨by simp, _, _, rfl⟩
    · obtain ⟨b, off, spot⟩ := x
      have hc0 := hcell 0 (by omega)
      have hspot : spot = none := by simpa [Addr.add] using World.cell?_spot hc0
      subst hspot
      refine .inr ⟨b, off, cap, by rw [hl2], by omega, hm, ?_, by omega, fun i hi => ?_⟩
      · have := World.block_lt_of_cell? w _ hc0
        simpa [Addr.add] using this
      · have hadd : (⟨b, off, none⟩ : Addr).add i = ⟨b, off + i, none⟩ := by unfold Addr.add; split <;> simp_all
        have := hcell i (by omega)
        rw [hadd] at this
        rw [this]
        simp only [List.getD_eq_getElem?_getD, List.getElem?_take]
        rw [if_pos (by omega)]

theorem Keeps.of_grown {w w' : World} {row : Option Nat} (h : w.grownBy w' row) : Keeps row.toList w w' :=
  ⟨h.os, h.tape, h.output, h.size, fun k hk hn => h.block k hk (fun e => hn (by rw [← e]; simp))⟩
theorem getD_mem {α : Type} (l : List α) (z : α) (k : Nat) (h : k < l.length) : l.getD k z ∈ l := by
  simp [List.getD_eq_getElem?_getD, List.getElem?_eq_getElem h]

/-- What an append onto the slice v leaves: the new slice lies in v's row or in a new one. -/
structure Grew (B : Nat) (v v' : Value) (xs : List Int) (w w' : World) : Prop where
  own : OwnI w' B v' xs
  grown : w.grownBy w' v.ownBlock
  at_ : v'.ownBlock = v.ownBlock ∨ v'.ownBlock = some w.heap.size
/-- Another slice of the call's own stays, and lies in another row still. -/
theorem Grew.other {B B' : Nat} {v v' u : Value} {xs ys : List Int} {w w' : World} (h : Grew B v v' xs w w') (hu : OwnI w B' u ys) (hne : ∀ x, u.ownBlock = some x → v.ownBlock ≠ some x) :
    OwnI w' B' u ys ∧ ∀ x, u.ownBlock = some x → v'.ownBlock ≠ some x := by
  refine ⟨hu.keeps (Keeps.of_grown h.grown) (fun b hb hx => hne b hb (by simpa using hx)), fun x hx => ?_⟩
  rcases h.at_ with e | e
  · rw [e]; exact hne x hx
  · rw [e]
    intro e'
    have := (hu.lt x hx).2
    injection e' with e'
    omega
theorem own_free {B : Nat} {v : Value} (hv : ∀ x, v.ownBlock = some x → B ≤ x) {b : Nat} (hb : b < B) : b ∉ v.ownBlock.toList := by
  intro hx
  have := hv b (by simpa using hx)
  omega
theorem Grew.keeps {B : Nat} {v v' : Value} {xs : List Int} {w w' w0 : World} (h : Grew B v v' xs w w') (hv : ∀ x, v.ownBlock = some x → B ≤ x) (hK : Keeps [] w0 w) (hB : w0.heap.size ≤ B) : Keeps [] w0 w' :=
  hK.step (Keeps.of_grown h.grown) (fun x hx => .inr (by have := hv x (by simpa using hx); omega))
theorem OwnI.from_ {w : World} {B : Nat} {v : Value} {xs : List Int} (h : OwnI w B v xs) : ∀ x, v.ownBlock = some x → B ≤ x := fun x hx => (h.lt x hx).1

/-- What a slice that owns its elements looks like. -/
theorem OwnI.shape {w : World} {B : Nat} {v : Value} {xs : List Int} (h : OwnI w B v xs) : ∃ a cap, v = .slice a xs.length cap := by
  rcases h.form with ⟨rfl, rfl⟩ | ⟨g, cap, cur, rfl, _⟩
  · exact ⟨none, 0, rfl⟩
  · exact ⟨_, cap, rfl⟩
end Go.Proofs.Ytognnjaefaoefaa
