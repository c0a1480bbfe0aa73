/- Plain: sorted lists of entries; what is set, dropped, due. No program in it. -/
import Derived.Test.YtognnjaefaoefaaCmp
namespace Go.Proofs.Ytognnjaefaoefaa
open Go.RowKit

/-- An entry comes before another one. -/
def Bef (a b : Int × Int) : Prop := a.2 < b.2 ∨ (a.2 = b.2 ∧ a.1 < b.1)
instance (a b : Int × Int) : Decidable (Bef a b) := by unfold Bef; infer_instance
theorem cmpE_bef (a b : Int × Int) : cmpE a b < 0 ↔ Bef a b := by
  unfold cmpE orI cmpI Bef
  split <;> split <;> (try split) <;> (try split) <;> (try split) <;> omega
theorem Bef.trans {a b c : Int × Int} (h : Bef a b) (k : Bef b c) : Bef a c := by unfold Bef at *; omega
theorem Bef.irrefl (a : Int × Int) : ¬ Bef a a := by unfold Bef; omega
theorem Bef.total {a b : Int × Int} (h : a.1 ≠ b.1) : Bef a b ∨ Bef b a := by unfold Bef; omega
/-- A list in its order, in which no id stands twice. -/
structure Good (L : List (Int × Int)) : Prop where
  sorted : L.Pairwise Bef
  ids : (L.map Prod.fst).Nodup
theorem Good.nil : Good [] := ⟨.nil, .nil⟩
/-- An id is dropped. -/
def dropE (L : List (Int × Int)) (id : Int) : List (Int × Int) := L.filter fun e => e.1 != id
/-- An entry is put in its place. -/
def insE (x : Int × Int) (L : List (Int × Int)) : List (Int × Int) := (L.filter fun e => decide (Bef e x)) ++ x :: (L.filter fun e => !decide (Bef e x))
def setE (L : List (Int × Int)) (id at_ : Int) : List (Int × Int) := insE (id, at_) (dropE L id)
def posE (L : List (Int × Int)) (x : Int × Int) : Nat := (L.filter fun e => decide (Bef e x)).length
theorem parted {x : Int × Int} : ∀ {L : List (Int × Int)}, L.Pairwise Bef → L = (L.filter fun e => decide (Bef e x)) ++ (L.filter fun e => !decide (Bef e x))
  | [], _ => rfl
  | e :: L, h => by
    rw [List.pairwise_cons] at h
    by_cases hb : Bef e x
    · rw [List.filter_cons, List.filter_cons, if_pos (by simpa using hb), if_neg (by simpa using hb), List.cons_append, ← parted h.2]
    · have h0 : L.filter (fun e => decide (Bef e x)) = [] := by
        rw [List.filter_eq_nil_iff]
        intro y hy
        have := h.1 y hy
        simp only [decide_eq_true_eq]
        exact fun h1 => hb (this.trans h1)
      have h1 : L.filter (fun e => !decide (Bef e x)) = L := by
        rw [List.filter_eq_self]
        intro y hy
        have := h.1 y hy
        simp only [Bool.not_eq_true', decide_eq_false_iff_not]
        exact fun h1 => hb (this.trans h1)
      rw [List.filter_cons, List.filter_cons, if_neg (by simpa using hb), if_pos (by simpa using hb), h0, h1, List.nil_append]
theorem insE_eq {L : List (Int × Int)} (h : L.Pairwise Bef) (x : Int × Int) : insE x L = L.take (posE L x) ++ x :: L.drop (posE L x) := by
  unfold insE posE
  have hp := parted (x := x) h
  generalize hA : L.filter (fun e => decide (Bef e x)) = A at *
  generalize hB : L.filter (fun e => !decide (Bef e x)) = B at *
  rw [hp, List.take_left', List.drop_left'] <;> rfl
theorem posE_le (L : List (Int × Int)) (x : Int × Int) : posE L x ≤ L.length := List.length_filter_le _ _
theorem posE_lt {L : List (Int × Int)} (h : L.Pairwise Bef) (x : Int × Int) {j : Nat} (hj : j < posE L x) : cmpE (L.getD j (0, 0)) x < 0 := by
  rw [cmpE_bef]
  unfold posE at hj
  have hp := parted (x := x) h
  have : L.getD j (0, 0) ∈ L.filter (fun e => decide (Bef e x)) := by
    generalize hA : L.filter (fun e => decide (Bef e x)) = A at *
    rw [hp, List.getD_eq_getElem?_getD, List.getElem?_append_left hj, List.getElem?_eq_getElem hj]
    exact List.getElem_mem hj
  simpa using (List.mem_filter.1 this).2
theorem posE_ge {L : List (Int × Int)} (h : L.Pairwise Bef) (x : Int × Int) {j : Nat} (hj : posE L x ≤ j) (hl : j < L.length) : ¬ cmpE (L.getD j (0, 0)) x < 0 := by
  rw [cmpE_bef]
  unfold posE at hj
  have hp := parted (x := x) h
  have : L.getD j (0, 0) ∈ L.filter (fun e => !decide (Bef e x)) := by
    generalize hA : L.filter (fun e => decide (Bef e x)) = A at *
    generalize hB : L.filter (fun e => !decide (Bef e x)) = B at *
    have hlen := congrArg List.length hp
    rw [List.length_append] at hlen
    have hjb : j - A.length < B.length := by omega
    rw [hp, List.getD_eq_getElem?_getD, List.getElem?_append_right hj, List.getElem?_eq_getElem hjb]
    exact List.getElem_mem hjb
  simpa using (List.mem_filter.1 this).2
theorem place_lt {L : List (Int × Int)} {id : Int} : placeOf L id < L.length ↔ ∃ e ∈ L, e.1 = id := by
  unfold placeOf
  rw [List.findIdx_lt_length]
  simp
theorem dropE_none {L : List (Int × Int)} {id : Int} (h : ¬ placeOf L id < L.length) : dropE L id = L := by
  unfold dropE
  rw [List.filter_eq_self]
  intro e he
  simp only [bne_iff_ne, ne_eq]
  exact fun h1 => h (place_lt.2 ⟨e, he, h1⟩)
theorem dropE_here : ∀ {L : List (Int × Int)} {id : Int}, (L.map Prod.fst).Nodup → placeOf L id < L.length → dropE L id = L.take (placeOf L id) ++ L.drop (placeOf L id + 1)
  | [], id, _, h => by simp at h
  | e :: L, id, hn, h => by
    rw [List.map_cons, List.nodup_cons] at hn
    unfold dropE placeOf
    rw [List.findIdx_cons, List.filter_cons]
    by_cases he : e.1 = id
    · subst he
      have : L.filter (fun y => y.1 != e.1) = L := by
        rw [List.filter_eq_self]
        intro y hy
        simp only [bne_iff_ne, ne_eq]
        exact fun h1 => hn.1 (List.mem_map.2 ⟨y, hy, h1⟩)
      simp [this]
    · have hb : (e.1 == id) = false := by simpa using he
      have hb2 : (e.1 != id) = true := by simpa using he
      have hL : placeOf L id < L.length := by
        have := place_lt.1 h
        obtain ⟨y, hy, hy2⟩ := this
        rcases List.mem_cons.1 hy with rfl | hy'
        · exact absurd hy2 he
        · exact place_lt.2 ⟨y, hy', hy2⟩
      have ih := dropE_here hn.2 hL
      unfold dropE placeOf at ih
      simp only [hb, hb2, cond_false, if_true]
      rw [List.take_succ_cons, List.drop_succ_cons, List.cons_append, ← ih]
theorem Good.dropE {L : List (Int × Int)} (h : Good L) (id : Int) : Good (dropE L id) :=
  ⟨h.sorted.filter _, by
    have : ((Go.Proofs.Ytognnjaefaoefaa.dropE L id).map Prod.fst).Sublist (L.map Prod.fst) := (List.filter_sublist).map _
    exact h.ids.sublist this⟩
theorem mem_dropE {L : List (Int × Int)} {id : Int} {e : Int × Int} : e ∈ dropE L id ↔ e ∈ L ∧ e.1 ≠ id := by
  unfold dropE
  rw [List.mem_filter]
  simp
theorem mem_insE {L : List (Int × Int)} {x e : Int × Int} : e ∈ insE x L ↔ e = x ∨ e ∈ L := by
  unfold insE
  rw [List.mem_append, List.mem_cons, List.mem_filter, List.mem_filter]
  by_cases h : Bef e x <;> simp [h, or_comm]
theorem mem_setE {L : List (Int × Int)} {id a : Int} {e : Int × Int} : e ∈ setE L id a ↔ e = (id, a) ∨ (e ∈ L ∧ e.1 ≠ id) := by
  unfold setE
  rw [mem_insE, mem_dropE]
theorem insE_perm {L : List (Int × Int)} (h : L.Pairwise Bef) (x : Int × Int) : (insE x L).Perm (x :: L) := by
  rw [insE_eq h x]
  have h1 : (L.take (posE L x) ++ x :: L.drop (posE L x)).Perm (x :: (L.take (posE L x) ++ L.drop (posE L x))) := List.perm_middle
  rw [List.take_append_drop] at h1
  exact h1
theorem Good.insE {L : List (Int × Int)} (h : Good L) (x : Int × Int) (hx : ∀ e ∈ L, e.1 ≠ x.1) : Good (insE x L) := by
  refine ⟨?_, ?_⟩
  · unfold Go.Proofs.Ytognnjaefaoefaa.insE
    rw [List.pairwise_append]
    refine ⟨h.sorted.filter _, ?_, ?_⟩
    · rw [List.pairwise_cons]
      refine ⟨fun e he => ?_, h.sorted.filter _⟩
      have he' := List.mem_filter.1 he
      rcases Bef.total (hx e he'.1) with h1 | h1
      · have := he'.2
        simp [h1] at this
      · exact h1
    · intro a ha b hb
      have ha' := List.mem_filter.1 ha
      have h1 : Bef a x := by simpa using ha'.2
      rcases List.mem_cons.1 hb with rfl | hb'
      · exact h1
      · have hb2 := List.mem_filter.1 hb'
        rcases Bef.total (hx b hb2.1) with h2 | h2
        · have := hb2.2
          simp [h2] at this
        · exact h1.trans h2
  · have hp := (insE_perm h.sorted x).map Prod.fst
    rw [hp.nodup_iff, List.map_cons, List.nodup_cons]
    refine ⟨fun hm => ?_, h.ids⟩
    obtain ⟨e, he, h1⟩ := List.mem_map.1 hm
    exact hx e he h1
theorem Good.setE {L : List (Int × Int)} (h : Good L) (id a : Int) : Good (setE L id a) :=
  (h.dropE id).insE (id, a) (fun e he => (mem_dropE.1 he).2)
theorem dropE_len {L : List (Int × Int)} (h : Good L) {id : Int} (hp : placeOf L id < L.length) : (dropE L id).length + 1 = L.length := by
  rw [dropE_here h.ids hp, List.length_append, List.length_take, List.length_drop]
  omega
theorem setE_len {L : List (Int × Int)} (h : Good L) (id a : Int) : (setE L id a).length = if placeOf L id < L.length then L.length else L.length + 1 := by
  unfold Go.Proofs.Ytognnjaefaoefaa.setE
  rw [(insE_perm (h.dropE id).sorted _).length_eq, List.length_cons]
  split
  · exact dropE_len h (by assumption)
  · rw [dropE_none (by assumption)]
/-- A sorted list is known by what it holds. -/
theorem Good.ext : ∀ {L M : List (Int × Int)}, L.Pairwise Bef → M.Pairwise Bef → (∀ e, e ∈ L ↔ e ∈ M) → L = M
  | [], [], _, _, _ => rfl
  | [], m :: M, _, _, h => by have := (h m).2 (by simp); simp at this
  | l :: L, [], _, _, h => by have := (h l).1 (by simp); simp at this
  | l :: L, m :: M, hl, hm, h => by
    rw [List.pairwise_cons] at hl hm
    have e : l = m := by
      rcases List.mem_cons.1 ((h l).1 (by simp)) with h1 | h1
      · exact h1
      · rcases List.mem_cons.1 ((h m).2 (by simp)) with h2 | h2
        · exact h2.symm
        · exact absurd ((hl.1 m h2).trans (hm.1 l h1)) (Bef.irrefl l)
    subst e
    congr 1
    apply Good.ext hl.2 hm.2
    intro y
    constructor
    · intro hy
      rcases List.mem_cons.1 ((h y).1 (List.mem_cons_of_mem _ hy)) with h1 | h1
      · subst h1
        exact absurd (hl.1 y hy) (Bef.irrefl y)
      · exact h1
    · intro hy
      rcases List.mem_cons.1 ((h y).2 (List.mem_cons_of_mem _ hy)) with h1 | h1
      · subst h1
        exact absurd (hm.1 y hy) (Bef.irrefl y)
      · exact h1
end Go.Proofs.Ytognnjaefaoefaa
