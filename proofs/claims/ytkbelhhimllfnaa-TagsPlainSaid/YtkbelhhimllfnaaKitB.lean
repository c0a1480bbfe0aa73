/- Slices of bytes: the laws on slices of integers (Kit, Kit2), for bytes; the text of bytes. No condition but the model's bounds on sizes. Printed by gen-kitb.py. -/
import Derived.Test.YtkbelhhimllfnaaWorks
import Derived.Test.YtkbelhhimllfnaaKit2
import Derived.Laws.IdiomStrings
namespace Go.Proofs.Ytkbelhhimllfnaa
open Go.RowKit Go.ChangeShapes

/-- The value v is a slice whose elements read, in the world w, as the integers xs. -/
def SlB (w : World) (v : Value) (xs : List Int) : Prop :=
  (xs = [] ∧ ∃ a cap, v = .slice a 0 cap) ∨
  ∃ b off cap, v = .slice (some ⟨b, off, none⟩) xs.length cap ∧ xs.length ≤ maxLen ∧ b < w.heap.size ∧ 0 < xs.length ∧ ∀ i, i < xs.length → w.cell? ⟨b, off + i, none⟩ = some (.int .u8 (xs.getD i 0))

section
variable {w w' : World} {v : Value} {xs ys : List Int} {S : List Nat}
theorem SlB.keeps (h : SlB w v xs) (k : Keeps S w w') (hn : ∀ b, v.ownBlock = some b → b ∉ S) : SlB w' v xs := by
  rcases h with h | ⟨b, off, cap, rfl, hm, hb, h0, hc⟩
  · exact .inl h
  · exact .inr ⟨b, off, cap, rfl, hm, Nat.lt_of_lt_of_le hb k.size, h0, fun i hi => (k.cell (p := ⟨b, off + i, none⟩) hb (hn b rfl)).trans (hc i hi)⟩
theorem SlB.drewN (h : SlB w v xs) (n : Nat) : SlB (w.drewN n) v xs := h
theorem SlB.nil (w : World) (a : Option Addr) (cap : Nat) : SlB w (.slice a 0 cap) [] := .inl ⟨rfl, a, cap, rfl⟩

/-- The slice v is nil, or the head of a row of the call's own that begins with the integers xs; the row lies from block B on. -/
def OwnB (w : World) (B : Nat) (v : Value) (xs : List Int) : Prop := w.ownsRow B 5 1 v xs.length (xs.map (Value.int .u8))

theorem OwnB.nil (w : World) (B : Nat) : OwnB w B (.slice none 0 0) [] := World.ownsRow_nil w B 5 1
theorem OwnB.form {B : Nat} (h : OwnB w B v xs) : (v = .slice none 0 0 ∧ xs = []) ∨ ∃ g cap cur, v = .slice (some ⟨g, 0, none⟩) xs.length cap ∧ B ≤ g ∧ Blk w g 5 cur ∧ xs.length ≤ cap ∧ cap ≤ maxLen ∧ cur.size = cap ∧ cur.toList.take xs.length = xs.map (Value.int .u8) := by
  rcases h.2 with ⟨h1, h2⟩ | ⟨g, cap, cur, h1, h2, h3, h4, h5, h6, h7⟩
  · exact .inl ⟨h1, List.eq_nil_of_length_eq_zero h2⟩
  · exact .inr ⟨g, cap, cur, h1, h2, h3, h4, h5, by omega, by simpa using h7⟩
theorem OwnB.base {B B' : Nat} (h : OwnB w B v xs) (hB : B' ≤ B) : OwnB w B' v xs := by
  refine ⟨h.1, ?_⟩
  rcases h.2 with h2 | ⟨g, cap, cur, h1, h2, hr⟩
  · exact .inl h2
  · exact .inr ⟨g, cap, cur, h1, by omega, hr⟩
theorem OwnB.lt {B : Nat} (h : OwnB w B v xs) : ∀ k, v.ownBlock = some k → B ≤ k ∧ k < w.heap.size := World.ownsRow.lt h
theorem OwnB.keeps {B : Nat} (h : OwnB w B v xs) (k : Keeps S w w') (hn : ∀ b, v.ownBlock = some b → b ∉ S) : OwnB w' B v xs := by
  refine ⟨h.1, ?_⟩
  rcases h.2 with h2 | ⟨g, cap, cur, h1, h2, h3, hr⟩
  · exact .inl h2
  · refine .inr ⟨g, cap, cur, h1, h2, ?_, hr⟩
    have hb : Blk w g 5 cur := h3
    exact hb.keeps k (hn g (by rw [h1]; rfl))
theorem OwnB.drewN {B : Nat} (h : OwnB w B v xs) (n : Nat) : OwnB (w.drewN n) B v xs := h
theorem OwnB.alloc {B : Nat} (h : OwnB w B v xs) (o : Obj) : OwnB (w.alloc o) B v xs := World.ownsRow.alloc h o
theorem OwnB.sl {B : Nat} (h : OwnB w B v xs) (hm : xs.length ≤ maxLen) : SlB w v xs := by
  rcases h.form with ⟨rfl, rfl⟩ | ⟨g, cap, cur, rfl, _, hb, _, _, _, ht⟩
  · exact SlB.nil _ _ _
  · rcases Nat.eq_zero_or_pos xs.length with h0 | h0
    · obtain rfl := List.eq_nil_of_length_eq_zero h0
      exact SlB.nil _ _ _
    · refine .inr ⟨g, 0, cap, rfl, hm, hb.lt, h0, fun i hi => ?_⟩
      rw [Nat.zero_add, hb.cell i]
      have : (cur.toList.take xs.length)[i]? = (xs.map (Value.int .u8))[i]? := by rw [ht]
      rw [List.getElem?_take, if_pos hi] at this
      simpa [List.getElem?_eq_getElem hi] using this
end


section
variable {P : Program} {w : World}

theorem byte_oneCell (zs : List Int) : ∀ u ∈ zs.map (Value.int .u8), u.oneCell' = true := by
  intro u hu
  obtain ⟨_, _, rfl⟩ := List.mem_map.1 hu
  rfl

theorem run_append_slB (t ty : TypeId) (B : Nat) (ht : P.underlying t = some (.slice 5)) (hinfo : (P.info? 5).map (fun i => (i.zero, i.size, i.bytes)) = some (some (.int .u8 0), 1, 1))
    {v u : Value} {xs ys : List Int} (hv : OwnB w B v xs) (hu : SlB w u ys) (hm : (xs.length + ys.length) * 1 ≤ 140737488355328) (hB : B ≤ w.heap.size) :
    ∃ v' w', (Builtin.append_ #[t, t] ty #[v, u]).run P w = .ok v' w' ∧ OwnB w' B v' (xs ++ ys) ∧ w.grownBy w' v.ownBlock ∧ (v'.ownBlock = v.ownBlock ∨ v'.ownBlock = some w.heap.size) := by
  obtain ⟨i0, hi, hz0, hz1, hz2⟩ := info_parts hinfo
  have fin : ∀ (ad : Addr) (c : Nat), (∀ j u, (ys.map (Value.int .u8))[j]? = some u → w.cell? (ad.add j) = some u) →
      ∃ v' w', (Builtin.append_ #[t, t] ty #[v, .slice (some ad) ys.length c]).run P w = .ok v' w' ∧ OwnB w' B v' (xs ++ ys) ∧ w.grownBy w' v.ownBlock ∧ (v'.ownBlock = v.ownBlock ∨ v'.ownBlock = some w.heap.size) := fun ad c hc => by
    obtain ⟨v', w', hr, h2, h3, _, h5⟩ := run_append_own_at (P := P) w B t ty 5 i0 (.int .u8 0) 1 1 ht hi hz0 hz1 hz2 rfl (by decide) v xs.length (xs.map (Value.int .u8)) hv ad ys.length c (ys.map (Value.int .u8)) (by simp) hc (byte_oneCell ys) (by unfold maxLen; omega) hm hB
    exact ⟨v', w', hr, by unfold OwnB; simpa using h2, h3, h5⟩
  rcases hu with ⟨rfl, a, cap, rfl⟩ | ⟨b, off, cap, rfl, hlen, hb, h0, hc⟩
  · rcases a with _ | ad
    · have hrun : (Builtin.append_ #[t, t] ty #[v, .slice none 0 cap]).run P w = .ok v w := by
        rcases hv.2 with ⟨rfl, _⟩ | ⟨g, cap', cur, rfl, _, _, hnc, _⟩
        · simp [Builtin.append_, run_underlying ht, sizeOf, typeInfo, hi, Builtin.lenOf, Builtin.firstCells]
        · simp [Builtin.append_, run_underlying ht, sizeOf, typeInfo, hi, Builtin.lenOf, Builtin.firstCells, hnc, storeCells]
      exact ⟨v, w, hrun, by simpa using hv, World.grownBy.refl w _, .inl rfl⟩
    · exact fin ad cap (fun j u hj => by simp at hj)
  · refine fin ⟨b, off, none⟩ cap (fun j u hj => ?_)
    have hjl : j < ys.length := by
      rcases Nat.lt_or_ge j ys.length with h | h
      · exact h
      · rw [List.getElem?_eq_none (by simpa using h)] at hj; cases hj
    have hadd : (⟨b, off, none⟩ : Addr).add j = ⟨b, off + j, none⟩ := by unfold Addr.add; split <;> simp_all
    rw [hadd, hc j hjl]
    simp [List.getElem?_eq_getElem hjl] at hj ⊢
    exact hj

theorem wpList_append_slB {ops : Array Oper} {rest : List Oper} {o : Oper} {a : Act} {Q : Exit → Act → World → Prop} (hgd : o.guard = none) (s x : Operand) (t : TypeId)
    (ho : o.op = .call { callee := .builtin .append, args := #[s, x], argTypes := #[t, t] })
    (B : Nat) (ht : P.underlying t = some (.slice 5)) (hinfo : (P.info? 5).map (fun i => (i.zero, i.size, i.bytes)) = some (some (.int .u8 0), 1, 1))
    {v u : Value} {xs ys : List Int} (hs : a.eval s = v) (hx : a.eval x = u) (hv : OwnB w B v xs) (hu : SlB w u ys) (hm : (xs.length + ys.length) * 1 ≤ 140737488355328) (hB : B ≤ w.heap.size)
    (h : ∀ v' w', OwnB w' B v' (xs ++ ys) → w.grownBy w' v.ownBlock → (v'.ownBlock = v.ownBlock ∨ v'.ownBlock = some w.heap.size) → wpList P ops Q rest (a.put o.dst v') w') : wpList P ops Q (o :: rest) a w := by
  refine wpList_plain hgd fun K hK => ?_
  obtain ⟨v', w', hr, h2, h3, h5⟩ := run_append_slB (P := P) t o.type B ht hinfo hv hu hm hB
  unfold Oper.wp execOp
  simp only [ho, resolve, invoke, builtin, Sem.run_bind, Sem.run_pure, Result.andThen_ok, List.map_toArray, List.map_cons, List.map_nil, hs, hx, hr]
  exact hK _ _ (h v' w' h2 h3 h5)


end

theorem OwnB.shape {w : World} {B : Nat} {v : Value} {xs : List Int} (h : OwnB w B v xs) : ∃ a cap, v = .slice a xs.length cap := by
  rcases h.form with ⟨rfl, rfl⟩ | ⟨g, cap, cur, rfl, _⟩
  · exact ⟨none, 0, rfl⟩
  · exact ⟨_, cap, rfl⟩
/-- Bytes as numbers. -/
def nums (l : List UInt8) : List Int := l.map fun b => (b.toNat : Int)
theorem nums_len (l : List UInt8) : (nums l).length = l.length := by simp [nums]
theorem nums_append (l m : List UInt8) : nums (l ++ m) = nums l ++ nums m := by simp [nums]
theorem SlB.litB {w : World} {g : Nat} {t : TypeId} (b : UInt8) (h : Blk w g t #[.int .u8 b.toNat]) : SlB w (.slice (some ⟨g, 0, none⟩) 1 1) (nums [b]) := by
  refine .inr ⟨g, 0, 1, rfl, by unfold maxLen; simp [nums], h.lt, by simp [nums], fun i hi => ?_⟩
  have : i = 0 := by simp [nums] at hi; exact hi
  subst this
  rw [Nat.zero_add, h.cell 0]
  rfl
/-- string(b) of a slice of the call's own that holds the bytes l. -/
theorem run_text {P : Program} {w : World} {B : Nat} {v : Value} {l : List UInt8} (h : OwnB w B v (nums l)) (hm : l.length ≤ maxLen) (src dst e : TypeId) (hs : P.underlying src = some (.slice e)) (he : P.underlying e = some (.int .u8)) (hd : P.underlying dst = some .string) :
    (convert src dst v).run P w = .ok (.string ⟨l.toArray⟩) w := by
  rcases Nat.eq_zero_or_pos l.length with h0 | h0
  · obtain rfl := List.eq_nil_of_length_eq_zero h0
    rcases h.form with ⟨rfl, _⟩ | ⟨g, cap, cur, rfl, _⟩
    · rw [run_convert_bytes_string w src dst e none 0 0 hs he hd]
      rfl
    · exact run_convert_bytes_back w src dst e ⟨g, 0, none⟩ cap [] hs he hd (fun j hj => by simp at hj)
  · rcases h.sl (by rw [nums_len]; exact hm) with ⟨hl, _⟩ | ⟨b, off, cap, rfl, _, _, _, hc⟩
    · have := nums_len l
      rw [hl] at this
      simp at this
      omega
    · rw [nums_len] at hc ⊢
      refine run_convert_bytes_back w src dst e ⟨b, off, none⟩ cap l hs he hd (fun j hj => ?_)
      have hadd : (⟨b, off, none⟩ : Addr).add j = ⟨b, off + j, none⟩ := by unfold Addr.add; split <;> simp_all
      rw [hadd, hc j hj]
      simp [nums, List.getD, List.getElem?_eq_getElem hj]
theorem infoByte : (Try.prog.info? 5).map (fun i => (i.zero, i.size, i.bytes)) = some (some (.int .u8 0), 1, 1) := by kernel_rfl
end Go.Proofs.Ytkbelhhimllfnaa
