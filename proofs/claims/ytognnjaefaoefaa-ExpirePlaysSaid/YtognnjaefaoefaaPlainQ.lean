/- Plain: what When answers for a list in order, when all are due, what the filled queue holds behind one change. No program in it. -/
import Derived.Test.YtognnjaefaoefaaWorks
namespace Go.Proofs.Ytognnjaefaoefaa
open Go.RowKit

theorem place_of {e : Int × Int} : ∀ {L : List (Int × Int)}, (L.map Prod.fst).Nodup → e ∈ L → placeOf L e.1 < L.length ∧ L.getD (placeOf L e.1) (0, 0) = e
  | [], _, h => by simp at h
  | a :: L, hn, h => by
    rw [List.map_cons, List.nodup_cons] at hn
    unfold placeOf
    rw [List.findIdx_cons]
    by_cases he : a.1 = e.1
    · have hb : (a.1 == e.1) = true := by simpa using he
      have hae : e = a := by
        rcases List.mem_cons.1 h with h1 | h1
        · exact h1
        · exact absurd (List.mem_map.2 ⟨e, h1, he.symm⟩) hn.1
      rw [hb, hae]
      exact ⟨by simp, rfl⟩
    · have hb : (a.1 == e.1) = false := by simpa using he
      have hL : e ∈ L := by
        rcases List.mem_cons.1 h with h1 | h1
        · exact absurd (by rw [h1]) he
        · exact h1
      obtain ⟨i1, i2⟩ := place_of hn.2 hL
      unfold placeOf at i1 i2
      rw [hb]
      refine ⟨by simpa using i1, ?_⟩
      simpa using i2
theorem when_of {L : List (Int × Int)} (hg : Good L) {e : Int × Int} (h : e ∈ L) : whenQ L e.1 = (e.2, true) := by
  obtain ⟨h1, h2⟩ := place_of hg.ids h
  unfold whenQ
  rw [if_pos h1, h2]
theorem when_not {L : List (Int × Int)} {id : Int} (h : ∀ e ∈ L, e.1 ≠ id) : whenQ L id = (0, false) := by
  unfold whenQ
  rw [if_neg]
  rw [place_lt]
  rintro ⟨e, he, h1⟩
  exact h e he h1
theorem dueN_all {now : Int} : ∀ {L : List (Int × Int)}, (∀ e ∈ L, e.2 ≤ now) → dueN L now = L.length
  | [], _ => rfl
  | e :: L, h => by
    have ih := dueN_all (L := L) (fun x hx => h x (List.mem_cons_of_mem _ hx))
    unfold dueN at ih ⊢
    rw [List.takeWhile_cons, if_pos (by simpa using h e (by simp)), List.length_cons, ih, List.length_cons]
theorem good_next {L : List (Int × Int)} (hg : Good L) {j : Nat} (h : j + 1 < L.length) : Bef (L.getD j (0, 0)) (L.getD (j + 1) (0, 0)) := by
  have := (List.pairwise_iff_getElem.1 hg.sorted) j (j + 1) (by omega) h (by omega)
  simpa [List.getD_eq_getElem?_getD, List.getElem?_eq_getElem, h, show j < L.length by omega] using this
theorem idsOf_getD (L : List (Int × Int)) (j : Nat) : (idsOf L).getD j 0 = (L.getD j (0, 0)).1 := by
  unfold idsOf
  rw [List.getD_eq_getElem?_getD, List.getD_eq_getElem?_getD, List.getElem?_map]
  cases L[j]? <;> rfl
/-- What the laws' queue holds when the id m was dropped or set anew. -/
structure Fin (zs : List Int) (n m : Nat) (t : Int) (L : List (Int × Int)) : Prop where
  good : Good L
  small : ∀ e ∈ L, e.2 ≤ 255
  what : ∀ e ∈ L, ∃ i : Nat, i < n ∧ e.1 = (i : Int) ∧ e.2 = if i = m then t else zs.getD i 0
  other : ∀ i : Nat, i < n → i ≠ m → whenQ L i = (zs.getD i 0, true)
theorem fin_drop {zs : List Int} {n m : Nat} (t : Int) (hz : ∀ z ∈ zs, z ≤ 255) (hn : n = zs.length) : Fin zs n m t (dropE (fillL zs n) m) ∧ whenQ (dropE (fillL zs n) m) m = (0, false) := by
  have hg := (fill_good zs n).dropE m
  have hm : ∀ e, e ∈ dropE (fillL zs n) m ↔ (∃ i : Nat, i < n ∧ e = ((i : Int), zs.getD i 0)) ∧ e.1 ≠ m := fun e => by rw [mem_dropE, fill_mem]
  refine ⟨⟨hg, fun e he => ?_, fun e he => ?_, fun i hi hne => ?_⟩, when_not fun e he => ((hm e).1 he).2⟩
  · obtain ⟨⟨i, hi, rfl⟩, _⟩ := (hm e).1 he
    exact hz _ (getD_mem zs 0 i (by omega))
  · obtain ⟨⟨i, hi, rfl⟩, h2⟩ := (hm e).1 he
    exact ⟨i, hi, rfl, by rw [if_neg (fun h => h2 (by rw [h]))]⟩
  · exact when_of hg (e := ((i : Int), zs.getD i 0)) ((hm _).2 ⟨⟨i, hi, rfl⟩, by simp; omega⟩)
theorem fin_set {zs : List Int} {n m : Nat} {t : Int} (ht : t ≤ 255) (hz : ∀ z ∈ zs, z ≤ 255) (hn : n = zs.length) (hm0 : m < n) : Fin zs n m t (setE (fillL zs n) m t) ∧ whenQ (setE (fillL zs n) m t) m = (t, true) := by
  have hg := (fill_good zs n).setE m t
  have hm : ∀ e, e ∈ setE (fillL zs n) m t ↔ e = ((m : Int), t) ∨ (∃ i : Nat, i < n ∧ e = ((i : Int), zs.getD i 0)) ∧ e.1 ≠ m := fun e => by rw [mem_setE, fill_mem]
  refine ⟨⟨hg, fun e he => ?_, fun e he => ?_, fun i hi hne => ?_⟩, when_of hg (e := ((m : Int), t)) ((hm _).2 (.inl rfl))⟩
  · rcases (hm e).1 he with rfl | ⟨⟨i, hi, rfl⟩, _⟩
    · exact ht
    · exact hz _ (getD_mem zs 0 i (by omega))
  · rcases (hm e).1 he with rfl | ⟨⟨i, hi, rfl⟩, h2⟩
    · exact ⟨m, hm0, rfl, by rw [if_pos rfl]⟩
    · exact ⟨i, hi, rfl, by rw [if_neg (fun h => h2 (by rw [h]))]⟩
  · exact when_of hg (e := ((i : Int), zs.getD i 0)) ((hm _).2 (.inr ⟨⟨i, hi, rfl⟩, by simp; omega⟩))
theorem fill_here (zs : List Int) {n m : Nat} (h : m < n) : placeOf (fillL zs n) (m : Int) < (fillL zs n).length :=
  place_lt.2 ⟨((m : Int), zs.getD m 0), (fill_mem zs n _).2 ⟨m, h, rfl⟩, rfl⟩
theorem drop_gone (L : List (Int × Int)) (id : Int) : ¬ placeOf (dropE L id) id < (dropE L id).length := by
  rw [place_lt]
  rintro ⟨e, he, h⟩
  exact (mem_dropE.1 he).2 h
end Go.Proofs.Ytognnjaefaoefaa
