/- Arguments that are slices of structs of two integers. No condition. -/
import Derived.Test.YtcdnflffpeijfaaDoorKit2
import Derived.Deep.SlicePairs
namespace Go.Proofs.YtcdnflffpeijfaaDoor
open Go.RowKit Go.ChangeShapes Go.Deep

/-- An argument that is a slice of structs of two integers, of the kinds k0 and k1. -/
def ArgP (k0 k1 : IntKind) (w : World) (v : Value) (ms : List (Int × Int)) : Prop :=
  (∀ m ∈ ms, (Lit.int k0 m.1).wf = true ∧ (Lit.int k1 m.2).wf = true) ∧
  ((ms = [] ∧ ∃ a cap, v = .slice a 0 cap) ∨
  ∃ b off cap, v = .slice (some ⟨b, off, none⟩) ms.length cap ∧ ms.length ≤ cap ∧ cap ≤ maxLen ∧ b < w.heap.size ∧ 0 < ms.length ∧
    ∀ i, i < ms.length → w.cell? ⟨b, off + i * 2, none⟩ = some (.int k0 (ms.getD i (0, 0)).1) ∧ w.cell? ⟨b, off + i * 2 + 1, none⟩ = some (.int k1 (ms.getD i (0, 0)).2))

theorem argP_of {H : Type} {enc : TypeId × Value → H} {P : Program} {w : World} {base : Nat} {spare : Nat → Bool} {held : Bool} {t e : TypeId} {f0 f1 : Field} {k0 k1 : IntKind} {a : Option Addr} {len cap : Nat} {d : DataW H} {p : List MemPlace}
    (ht : P.underlying t = some (.slice e)) (he : P.underlying e = some (.struct #[f0, f1])) (ce : P.cellsOf e = 2) (o0 : f0.offset = 0) (o1 : f1.offset = 1) (c0 : P.cellsOf f0.type = 1) (c1 : P.cellsOf f1.type = 1)
    (u0 : P.underlying f0.type = some (.int k0)) (u1 : P.underlying f1.type = some (.int k1))
    (h : DataW.Trod enc P w base spare held t (.slice a len cap) d p) : ∃ ms, ArgP k0 k1 w (.slice a len cap) ms := by
  obtain ⟨fuel, hf⟩ := h
  rcases open_slice_pairs ht he ce o0 o1 c0 c1 hf with ⟨hcs, _⟩ | ⟨x, l, c, m, n, V0, V1, D0, D1, P0, P1, hcs, _, hl, hm, hmm, _, hcell⟩
  · simp [Value.cells] at hcs
    obtain ⟨rfl, rfl, rfl⟩ := hcs
    exact ⟨[], by simp, .inl ⟨rfl, none, 0, rfl⟩⟩
  · simp [Value.cells] at hcs
    obtain ⟨rfl, rfl, rfl⟩ := hcs
    have hlm : len ≤ m := by rw [hmm]; split <;> omega
    have hint : ∀ i, i < len → ∃ q : Int × Int, ((Lit.int k0 q.1).wf = true ∧ (Lit.int k1 q.2).wf = true) ∧ w.cell? (x.add (i * 2)) = some (.int k0 q.1) ∧ w.cell? (x.add (i * 2 + 1)) = some (.int k1 q.2) := fun i hi => by
      obtain ⟨h1, h2, h3, h4⟩ := hcell i (by omega)
      obtain ⟨a0, e0, _, w0⟩ := DataW.trod_int u0 h3
      obtain ⟨a1, e1, _, w1⟩ := DataW.trod_int u1 h4
      simp at e0 e1
      exact ⟨(a0, a1), ⟨w0, w1⟩, by rw [h1, e0], by rw [h2, e1]⟩
    have hch : ∃ f : Nat → Int × Int, ∀ i, i < len → ((Lit.int k0 (f i).1).wf = true ∧ (Lit.int k1 (f i).2).wf = true) ∧ w.cell? (x.add (i * 2)) = some (.int k0 (f i).1) ∧ w.cell? (x.add (i * 2 + 1)) = some (.int k1 (f i).2) := by
      classical
      refine ⟨fun i => if h : i < len then Classical.choose (hint i h) else (0, 0), fun i hi => ?_⟩
      simp only [dif_pos hi]
      exact Classical.choose_spec (hint i hi)
    obtain ⟨f, hf'⟩ := hch
    refine ⟨(List.range len).map f, fun q hq => ?_, ?_⟩
    · obtain ⟨i, hi, rfl⟩ := List.mem_map.1 hq
      exact (hf' i (List.mem_range.1 hi)).1
    · have hl2 : ((List.range len).map f).length = len := by simp
      rcases Nat.eq_zero_or_pos len with h0 | h0
      · subst h0
        exact .inl ⟨rfl, _, _, rfl⟩
      · obtain ⟨b, off, spot⟩ := x
        have hc0 := (hf' 0 h0).2.1
        have hspot : spot = none := by simpa [Addr.add] using World.cell?_spot hc0
        subst hspot
        refine .inr ⟨b, off, cap, by rw [hl2], by omega, hm, ?_, by omega, fun i hi => ?_⟩
        · have := World.block_lt_of_cell? w _ hc0
          simpa [Addr.add] using this
        · rw [hl2] at hi
          have hadd : ∀ j, (⟨b, off, none⟩ : Addr).add j = ⟨b, off + j, none⟩ := fun j => by unfold Addr.add; split <;> simp_all
          have h1 := (hf' i hi).2
          rw [hadd, hadd] at h1
          have hg : ((List.range len).map f).getD i (0, 0) = f i := by simp [List.getElem?_range hi]
          rw [hg]
          exact ⟨h1.1, by have := h1.2; rwa [← Nat.add_assoc] at this⟩
end Go.Proofs.YtcdnflffpeijfaaDoor
