/- Arguments that are slices of structs of three integers. No condition. -/
import Derived.Test.YtognnjaefaoefaaKit2
import Derived.Deep.Slices
import Derived.ChangeSame
namespace Go.Proofs.Ytognnjaefaoefaa
open Go.RowKit Go.ChangeShapes Go.Deep

/-- An argument that is a slice of structs of three integers of the model's int64. -/
def ArgT (w : World) (v : Value) (ms : List (Int × Int × Int)) : Prop :=
  (∀ m ∈ ms, (Lit.int .i64 m.1).wf = true ∧ (Lit.int .i64 m.2.1).wf = true ∧ (Lit.int .i64 m.2.2).wf = true) ∧
  ((ms = [] ∧ ∃ a cap, v = .slice a 0 cap) ∨
  ∃ b off cap, v = .slice (some ⟨b, off, none⟩) ms.length cap ∧ ms.length ≤ cap ∧ cap ≤ maxLen ∧ b < w.heap.size ∧ 0 < ms.length ∧
    ∀ i, i < ms.length → w.cell? ⟨b, off + i * 3, none⟩ = some (.int .i64 (ms.getD i (0, 0, 0)).1) ∧ w.cell? ⟨b, off + i * 3 + 1, none⟩ = some (.int .i64 (ms.getD i (0, 0, 0)).2.1) ∧ w.cell? ⟨b, off + i * 3 + 2, none⟩ = some (.int .i64 (ms.getD i (0, 0, 0)).2.2))

theorem argT_of {H : Type} {enc : TypeId × Value → H} {P : Program} {w : World} {base : Nat} {spare : Nat → Bool} {held : Bool} {t e : TypeId} {f0 f1 f2 : Field} {a : Option Addr} {len cap : Nat} {d : DataW H} {p : List MemPlace}
    (ht : P.underlying t = some (.slice e)) (he : P.underlying e = some (.struct #[f0, f1, f2])) (ce : P.cellsOf e = 3) (o0 : f0.offset = 0) (o1 : f1.offset = 1) (o2 : f2.offset = 2) (c0 : P.cellsOf f0.type = 1) (c1 : P.cellsOf f1.type = 1) (c2 : P.cellsOf f2.type = 1)
    (u0 : P.underlying f0.type = some (.int .i64)) (u1 : P.underlying f1.type = some (.int .i64)) (u2 : P.underlying f2.type = some (.int .i64))
    (h : DataW.Trod enc P w base spare held t (.slice a len cap) d p) : ∃ ms, ArgT w (.slice a len cap) ms := by
  obtain ⟨fuel, hf⟩ := h
  rcases open_slice ht hf with ⟨hcs, _⟩ | ⟨x, l, c, m, n, D, Pl, hcs, _, hl, hm, hmm, _, hx⟩
  · simp [Value.cells] at hcs
    obtain ⟨rfl, rfl, rfl⟩ := hcs
    exact ⟨[], by simp, .inl ⟨rfl, none, 0, rfl⟩⟩
  · simp [Value.cells] at hcs
    obtain ⟨rfl, rfl, rfl⟩ := hcs
    have hlm : len ≤ m := by rw [hmm]; split <;> omega
    have hint : ∀ i, i < len → ∃ q : Int × Int × Int, ((Lit.int .i64 q.1).wf = true ∧ (Lit.int .i64 q.2.1).wf = true ∧ (Lit.int .i64 q.2.2).wf = true) ∧ w.cell? (x.add (i * 3)) = some (.int .i64 q.1) ∧ w.cell? (x.add (i * 3 + 1)) = some (.int .i64 q.2.1) ∧ w.cell? (x.add (i * 3 + 2)) = some (.int .i64 q.2.2) := fun i hi => by
      obtain ⟨cs', h1, h2⟩ := hx i (by omega)
      rw [ce] at h1
      obtain ⟨_, hlen, hcell⟩ := World.cells?_some h1
      obtain ⟨xs, k, hk, hxy, _, hxl, hf⟩ := DataW.trod_struct he h2
      match xs, hxl, cs', hlen with
      | [y0, y1, y2], _, [v0, v1, v2], _ =>
        have g0 := hf 0 f0 rfl
        have g1 := hf 1 f1 rfl
        have g2 := hf 2 f2 rfl
        simp [o0, o1, o2, c0, c1, c2] at g0 g1 g2
        have e0 := hcell 0 (by omega)
        have e1 := hcell 1 (by omega)
        have e2 := hcell 2 (by omega)
        rw [add_add] at e0 e1 e2
        obtain ⟨z0, q0, _, w0⟩ := DataW.trod_int u0 g0
        obtain ⟨z1, q1, _, w1⟩ := DataW.trod_int u1 g1
        obtain ⟨z2, q2, _, w2⟩ := DataW.trod_int u2 g2
        simp at q0 q1 q2
        subst q0 q1 q2
        exact ⟨(z0, z1, z2), ⟨w0, w1, w2⟩, by simpa using e0, by simpa using e1, by simpa using e2⟩
    have hch : ∃ f : Nat → Int × Int × Int, ∀ i, i < len → ((Lit.int .i64 (f i).1).wf = true ∧ (Lit.int .i64 (f i).2.1).wf = true ∧ (Lit.int .i64 (f i).2.2).wf = true) ∧ w.cell? (x.add (i * 3)) = some (.int .i64 (f i).1) ∧ w.cell? (x.add (i * 3 + 1)) = some (.int .i64 (f i).2.1) ∧ w.cell? (x.add (i * 3 + 2)) = some (.int .i64 (f i).2.2) := by
      classical
      refine ⟨fun i => if h : i < len then Classical.choose (hint i h) else (0, 0, 0), fun i hi => ?_⟩
      simp only [dif_pos hi]
      exact Classical.choose_spec (hint i hi)
    obtain ⟨f, hf'⟩ := hch
    refine ⟨(List.range len).map f, fun q hq => ?_, ?_⟩
    · obtain ⟨i, hi, rfl⟩ := List.mem_map.1 hq
      exact (hf' i (List.mem_range.1 hi)).1
    · have hl2 : ((List.range len).map f).length = len := by simp
      rcases Nat.eq_zero_or_pos len with h0 | h0
      · subst h0
        exact .inl ⟨rfl, _, _, rfl⟩
      · obtain ⟨b, off, spot⟩ := x
        have hc0 := (hf' 0 h0).2.1
        have hspot : spot = none := by simpa [Addr.add] using World.cell?_spot hc0
        subst hspot
        refine .inr ⟨b, off, cap, by rw [hl2], by omega, hm, ?_, by omega, fun i hi => ?_⟩
        · have := World.block_lt_of_cell? w _ hc0
          simpa [Addr.add] using this
        · rw [hl2] at hi
          have hadd : ∀ j, (⟨b, off, none⟩ : Addr).add j = ⟨b, off + j, none⟩ := fun j => by unfold Addr.add; split <;> simp_all
          have h1 := (hf' i hi).2
          rw [hadd, hadd, hadd] at h1
          have hg : ((List.range len).map f).getD i (0, 0, 0) = f i := by simp [List.getElem?_range hi]
          rw [hg]
          exact ⟨h1.1, by have := h1.2.1; rwa [← Nat.add_assoc] at this, by have := h1.2.2; rwa [← Nat.add_assoc] at this⟩
theorem ArgT.shape {w : World} {v : Value} {ms : List (Int × Int × Int)} (h : ArgT w v ms) : ∃ a cap, v = .slice a ms.length cap := by
  rcases h.2 with ⟨rfl, a, cap, rfl⟩ | ⟨b, off, cap, rfl, _⟩
  · exact ⟨a, cap, rfl⟩
  · exact ⟨_, cap, rfl⟩
theorem ArgT.some_ {w : World} {a : Option Addr} {cap : Nat} {ms : List (Int × Int × Int)} (h : ArgT w (.slice a ms.length cap) ms) {i : Nat} (hi : i < ms.length) : ∃ b off, a = some ⟨b, off, none⟩ ∧ b < w.heap.size ∧ ms.length ≤ cap ∧ cap ≤ maxLen ∧
    ∀ i, i < ms.length → w.cell? ⟨b, off + i * 3, none⟩ = some (.int .i64 (ms.getD i (0, 0, 0)).1) ∧ w.cell? ⟨b, off + i * 3 + 1, none⟩ = some (.int .i64 (ms.getD i (0, 0, 0)).2.1) ∧ w.cell? ⟨b, off + i * 3 + 2, none⟩ = some (.int .i64 (ms.getD i (0, 0, 0)).2.2) := by
  rcases h.2 with ⟨rfl, _⟩ | ⟨b, off, cap', he, h1, h2, h3, _, h5⟩
  · simp at hi
  · injection he with e1 e2 e3
    exact ⟨b, off, e1, h3, by omega, by omega, h5⟩
end Go.Proofs.Ytognnjaefaoefaa
