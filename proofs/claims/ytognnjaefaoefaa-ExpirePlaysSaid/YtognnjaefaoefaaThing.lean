/- The queues of the package and those of the document as things of one kind (Items), with a contract for each method. Condition: queues that New or Copy returned. -/
import Derived.Test.YtognnjaefaoefaaRDue
import Derived.Test.YtognnjaefaoefaaCopy
import Derived.Test.YtognnjaefaoefaaItems
namespace Go.Proofs.Ytognnjaefaoefaa
open Go.RowKit

/-- A queue (of the package: true; of the document: false), its block, its entries, and a list of numbers that it gave. -/
abbrev Thing := Bool × Nat × List (Int × Int) × Option (Value × List Int)
/-- The list that a queue gave. -/
def Gave (w : World) (C : Nat → Prop) : Option (Value × List Int) → Prop
  | none => True
  | some (o, xs) => SlI w o xs ∧ ∀ x, o.ownBlock = some x → x < w.heap.size ∧ C x
def It (w : World) : Thing → (Nat → Prop) → Prop
  | (true, b, L, g), C => (∃ O, Qu w b O L ∧ ∀ x ∈ O, C x) ∧ Gave w C g
  | (false, b, L, g), C => (∃ v, RQ w b v L ∧ C b ∧ (∀ x, v.ownBlock = some x → C x) ∧ Good L ∧ L.length ≤ 256) ∧ Gave w C g
theorem Gave.keeps {w w' : World} {C : Nat → Prop} {S : List Nat} {g : Option (Value × List Int)} (h : Gave w C g) (k : Keeps S w w') (hS : ∀ x ∈ S, x < w.heap.size → ¬ C x) : Gave w' C g := by
  cases g with
  | none => trivial
  | some y =>
    obtain ⟨o, xs⟩ := y
    obtain ⟨h1, h2⟩ := h
    exact ⟨h1.keeps k (fun x hx hs => hS x hs (h2 x hx).1 (h2 x hx).2), fun x hx => ⟨Nat.lt_of_lt_of_le (h2 x hx).1 k.size, (h2 x hx).2⟩⟩
theorem Gave.mono {w : World} {C D : Nat → Prop} {g : Option (Value × List Int)} (h : Gave w C g) (hD : ∀ x, x < w.heap.size → C x → D x) : Gave w D g := by
  cases g with
  | none => trivial
  | some y =>
    obtain ⟨o, xs⟩ := y
    obtain ⟨h1, h2⟩ := h
    exact ⟨h1, fun x hx => ⟨(h2 x hx).1, hD x (h2 x hx).1 (h2 x hx).2⟩⟩
theorem itFrame : Frame It := by
  constructor
  · intro w w' it C S h k hS
    obtain ⟨t, b, L, g⟩ := it
    cases t with
    | true =>
      obtain ⟨⟨O, h1, h2⟩, h3⟩ := h
      exact ⟨⟨O, h1.keeps k (fun x hx hs => hS x hs (h1.lt x hx) (h2 x hx)), h2⟩, h3.keeps k hS⟩
    | false =>
      obtain ⟨⟨v, h1, h2, h3, h4⟩, h5⟩ := h
      exact ⟨⟨v, h1.keeps k (fun hs => hS _ hs h1.lt.1 h2) (fun x hx hs => hS x hs (h1.lt.2 x hx) (h3 x hx)), h2, h3, h4⟩, h5.keeps k hS⟩
  · intro w it C D h hD
    obtain ⟨t, b, L, g⟩ := it
    cases t with
    | true =>
      obtain ⟨⟨O, h1, h2⟩, h3⟩ := h
      exact ⟨⟨O, h1, fun x hx => hD x (h1.lt x hx) (h2 x hx)⟩, h3.mono hD⟩
    | false =>
      obtain ⟨⟨v, h1, h2, h3, h4⟩, h5⟩ := h
      exact ⟨⟨v, h1, hD b h1.lt.1 h2, fun x hx => hD x (h1.lt.2 x hx) (h3 x hx), h4⟩, h5.mono hD⟩
/-- A thing of a list was turned. -/
theorem All.turn {ι : Type} {It : World → ι → (Nat → Prop) → Prop} (F : Frame It) {w0 w w' : World} {its : List ι} {it it' : ι} {c : Nat → Nat} {k : Nat} (h1 : ∀ k it, its[k]? = some it → It w it (fun x => c x = k)) (h2 : ∀ x, x < w.heap.size → c x < its.length → w0.heap.size ≤ x) (h3 : Keeps [] w0 w) (hk : its[k]? = some it)
    (hC : Chg It w w' (fun x => c x = k) it') : All It w0 w' (its.set k it') := by
  obtain ⟨S, kS, hS, hI⟩ := hC
  have hkl : k < its.length := (List.getElem?_eq_some_iff.1 hk).1
  have hz := h3.size
  refine ⟨fun x => if w.heap.size ≤ x then k else c x, fun j jt hj => ?_, fun x hx hcx => ?_, h3.step kS (fun x hx => .inr ?_)⟩
  · by_cases hjk : j = k
    · subst hjk
      rw [List.getElem?_set_self hkl] at hj
      injection hj with hj
      subst hj
      refine F.mono hI (fun x _ hx => ?_)
      show (if w.heap.size ≤ x then j else c x) = j
      rcases hx with hx | hx
      · split
        · rfl
        · exact hx
      · rw [if_pos hx]
    · rw [List.getElem?_set_ne (fun e => hjk e.symm)] at hj
      refine F.keeps (F.mono (h1 j jt hj) (fun x hx hcx => ?_)) kS (fun x hx hxw hcx => ?_)
      · show (if w.heap.size ≤ x then k else c x) = j
        rw [if_neg (by omega)]; exact hcx
      · replace hcx : (if w.heap.size ≤ x then k else c x) = j := hcx
        rw [if_neg (by omega)] at hcx
        have := hS x hx hxw
        exact hjk (by omega)
  · replace hcx : (if w.heap.size ≤ x then k else c x) < (its.set k it').length := hcx
    rw [List.length_set] at hcx
    by_cases hw : w.heap.size ≤ x
    · omega
    · rw [if_neg hw] at hcx
      exact h2 x (by omega) hcx
  · by_cases hw : x < w.heap.size
    · exact h2 x hw (by rw [hS x hx hw]; exact hkl)
    · omega
/-- A call that turns one thing, whose answer tells what it became. -/
theorem All.callE {ι : Type} {It : World → ι → (Nat → Prop) → Prop} (F : Frame It) {w0 w : World} {its : List ι} {it : ι} {P : Program} {f : FuncId} {args : Array Value} {k : Nat} {R : Ending → ι → Prop} (h : All It w0 w its) (hk : its[k]? = some it)
    (hc : ∀ C, It w it C → Calls P f args w fun e w' => ∃ it', R e it' ∧ Chg It w w' C it') : Calls P f args w fun e w' => ∃ it', R e it' ∧ All It w0 w' (its.set k it') := by
  obtain ⟨c, h1, h2, h3⟩ := h
  refine (hc _ (h1 k it hk)).mono ?_
  rintro e w' ⟨it', hR, hC⟩
  exact ⟨it', hR, All.turn F h1 h2 h3 hk hC⟩
section
variable {w : World} {b : Nat} {L : List (Int × Int)} {C : Nat → Prop}
theorem Turned.chg {w' : World} {O : List Nat} {M : List (Int × Int)} (h : Turned w w' b O M) (hO : ∀ x ∈ O, C x) : Chg It w w' C (true, b, M, none) := by
  obtain ⟨O', h1, h2, h3⟩ := h
  refine ⟨O, h2, fun x hx _ => hO x hx, ⟨O', h1, fun x hx => ?_⟩, trivial⟩
  rcases h3 x hx with h | h
  · exact .inl (hO x h)
  · exact .inr h
theorem RTurned.chg {w' : World} {v : Value} {M : List (Int × Int)} (h : RTurned w w' b v M) (hb : C b) (hv : ∀ x, v.ownBlock = some x → C x) (hg : Good M) (hl : M.length ≤ 256) : Chg It w w' C (false, b, M, none) := by
  obtain ⟨v', h1, h2, h3⟩ := h
  refine ⟨[b], h2, fun x hx _ => ?_, ⟨v', h1, .inl hb, fun x hx => ?_, hg, hl⟩, trivial⟩
  · rw [List.mem_singleton] at hx; rw [hx]; exact hb
  · rcases h3 x hx with h | h
    · exact .inl (hv x h)
    · exact .inr h
theorem setL_ok {id a : Int} (hg : Good L) (hl : L.length ≤ 256) : Good (setL L id a) ∧ (setL L id a).length ≤ 256 := by
  unfold setL
  by_cases h : setErr L id a = 0
  · rw [if_pos h]
    refine ⟨hg.setE id a, ?_⟩
    have := setE_len hg id a
    unfold setErr at h
    by_cases hp : placeOf L id < L.length
    · rw [if_pos hp] at this; omega
    · rw [if_neg hp] at this
      by_cases h1 : a < 0 ∨ 1099511627776 < a
      · rw [if_pos h1] at h; omega
      · rw [if_neg h1] at h
        by_cases h2 : ¬ placeOf L id < L.length ∧ 256 ≤ L.length
        · rw [if_pos h2] at h; omega
        · omega
  · rw [if_neg h]
    exact ⟨hg, hl⟩
theorem dropE_ok (id : Int) (hg : Good L) (hl : L.length ≤ 256) : Good (dropE L id) ∧ (dropE L id).length ≤ 256 := ⟨hg.dropE id, Nat.le_trans (List.length_filter_le _ _) hl⟩
theorem drop_ok (k : Nat) (hg : Good L) (hl : L.length ≤ 256) : Good (L.drop k) ∧ (L.drop k).length ≤ 256 := ⟨hg.drop k, by rw [List.length_drop]; omega⟩
theorem set_b (h : It w (true, b, L, none) C) (id a : Int) : Calls Try.prog 16 #[.pointer (some ⟨b, 0, none⟩), .int .i64 id, .int .i64 a] w fun e w' => e = .returned (.int .i64 (setErr L id a)) ∧ Chg It w w' C (true, b, setL L id a, none) := by
  obtain ⟨⟨O, h1, h2⟩, _⟩ := h
  exact (Set_in h1 id a).mono fun e w' ⟨he, ht⟩ => ⟨he, ht.chg h2⟩
theorem drop_b (h : It w (true, b, L, none) C) (id : Int) : Calls Try.prog 18 #[.pointer (some ⟨b, 0, none⟩), .int .i64 id] w fun e w' => e = .returned (.bool (decide (placeOf L id < L.length))) ∧ Chg It w w' C (true, b, dropE L id, none) := by
  obtain ⟨⟨O, h1, h2⟩, _⟩ := h
  exact (Drop_in h1 id).mono fun e w' ⟨he, ht⟩ => ⟨he, ht.chg h2⟩
theorem drop_r (h : It w (false, b, L, none) C) (id : Int) : Calls Try.prog 22 #[.pointer (some ⟨b, 0, none⟩), .int .i64 id] w fun e w' => e = .returned (.bool (decide (placeOf L id < L.length))) ∧ Chg It w w' C (false, b, dropE L id, none) := by
  obtain ⟨⟨v, h1, h2, h3, h4, h5⟩, _⟩ := h
  exact (RDrop_q h1 h4.ids (by omega) id).mono fun e w' ⟨he, ht⟩ => ⟨he, ht.chg h2 h3 (dropE_ok id h4 h5).1 (dropE_ok id h4 h5).2⟩
theorem OwnI.gave {w' : World} {o : Value} {xs : List Int} (h : OwnI w' w.heap.size o xs) (hl : xs.length ≤ 256) : Gave w' (fun x => C x ∨ w.heap.size ≤ x) (some (o, xs)) :=
  ⟨h.sl (by unfold maxLen; omega), fun x hx => ⟨(h.lt x hx).2, .inr (h.lt x hx).1⟩⟩
theorem ids_len (L : List (Int × Int)) (k : Nat) (hl : L.length ≤ 256) : (idsOf (L.take k)).length ≤ 256 := by
  unfold idsOf
  rw [List.length_map, List.length_take]
  omega
/-- A queue gave this list. -/
def DueR (t : Bool) (b : Nat) (M : List (Int × Int)) (xs : List Int) (e : Ending) (it : Thing) : Prop := ∃ o, e = .returned o ∧ it = (t, b, M, some (o, xs))
theorem due_b (h : It w (true, b, L, none) C) (now : Int) : Calls Try.prog 13 #[.pointer (some ⟨b, 0, none⟩), .int .i64 now] w fun e w' => ∃ it', DueR true b (L.drop (dueN L now)) (idsOf (L.take (dueN L now))) e it' ∧ Chg It w w' C it' := by
  obtain ⟨⟨O, h1, h2⟩, _⟩ := h
  refine (Due_in h1 now).mono ?_
  rintro e w' ⟨o, he, ho, hq, hk⟩
  refine ⟨_, ⟨o, he, rfl⟩, O, hk, fun x hx _ => h2 x hx, ⟨O, hq, fun x hx => .inl (h2 x hx)⟩, ho.gave (ids_len _ _ h1.len)⟩
theorem due_r (h : It w (false, b, L, none) C) (now : Int) : Calls Try.prog 24 #[.pointer (some ⟨b, 0, none⟩), .int .i64 now] w fun e w' => ∃ it', DueR false b (L.drop (dueN L now)) (idsOf (L.take (dueN L now))) e it' ∧ Chg It w w' C it' := by
  obtain ⟨⟨v, h1, h2, h3, h4, h5⟩, _⟩ := h
  refine (RDue_q h1 (by omega) now).mono ?_
  rintro e w' ⟨o, he, ho, v', hq, hk, hv⟩
  refine ⟨_, ⟨o, he, rfl⟩, [b], hk, fun x hx _ => ?_, ⟨v', hq, .inl h2, fun x hx => ?_, (drop_ok _ h4 h5).1, (drop_ok _ h4 h5).2⟩, ho.gave (ids_len _ _ h5)⟩
  · rw [List.mem_singleton] at hx; rw [hx]; exact h2
  · rcases hv x hx with h | h
    · exact .inl (h3 x h)
    · exact .inr h
theorem new_b (w : World) : Calls Try.prog 15 #[] w fun e w' => ∃ b, e = .returned (.pointer (some ⟨b, 0, none⟩)) ∧ Keeps [] w w' ∧ It w' (true, b, [], none) (fun x => w.heap.size ≤ x) := by
  refine (New_q w).mono ?_
  rintro e w' ⟨b, O, he, hq, hk, hO⟩
  exact ⟨b, he, hk, ⟨O, hq, hO⟩, trivial⟩
theorem new_r (w : World) : Calls Try.prog 20 #[] w fun e w' => ∃ b, e = .returned (.pointer (some ⟨b, 0, none⟩)) ∧ Keeps [] w w' ∧ It w' (false, b, [], none) (fun x => w.heap.size ≤ x) := by
  refine (RNew_q w).mono ?_
  rintro e w' ⟨he, hq, hk⟩
  exact ⟨_, he, hk, ⟨_, hq, Nat.le_refl _, fun x hx => by simp [Value.ownBlock] at hx, Good.nil, by simp⟩, trivial⟩
theorem copy_b (h : It w (true, b, L, none) C) : Calls Try.prog 25 #[.pointer (some ⟨b, 0, none⟩)] w fun e w' => ∃ b', e = .returned (.pointer (some ⟨b', 0, none⟩)) ∧ Keeps [] w w' ∧ It w' (true, b', L, none) (fun x => w.heap.size ≤ x) := by
  obtain ⟨⟨O, h1, h2⟩, _⟩ := h
  refine (Copy_in h1).mono ?_
  rintro e w' ⟨b', O', he, hq, hk, hO⟩
  exact ⟨b', he, hk, ⟨O', hq, hO⟩, trivial⟩
theorem copy_r (h : It w (false, b, L, none) C) : Calls Try.prog 26 #[.pointer (some ⟨b, 0, none⟩)] w fun e w' => ∃ b', e = .returned (.pointer (some ⟨b', 0, none⟩)) ∧ Keeps [] w w' ∧ It w' (false, b', L, none) (fun x => w.heap.size ≤ x) := by
  obtain ⟨⟨v, h1, h2, h3, h4, h5⟩, _⟩ := h
  refine (RCopy_q h1 (by omega)).mono ?_
  rintro e w' ⟨b', v', he, hq, hk, hb, hv⟩
  exact ⟨b', he, hk, ⟨v', hq, hb, hv, h4, h5⟩, trivial⟩
theorem next_b (h : It w (true, b, L, none) C) : Calls Try.prog 17 #[.pointer (some ⟨b, 0, none⟩)] w fun e w' => e = .returned (.tuple #[.int .i64 (headQ L).1, .int .i64 (headQ L).2.1, .bool (headQ L).2.2]) ∧ Keeps [] w w' := by
  obtain ⟨⟨O, h1, h2⟩, _⟩ := h
  exact Next_q h1
theorem next_r (h : It w (false, b, L, none) C) : Calls Try.prog 27 #[.pointer (some ⟨b, 0, none⟩)] w fun e w' => e = .returned (.tuple #[.int .i64 (headQ L).1, .int .i64 (headQ L).2.1, .bool (headQ L).2.2]) ∧ Keeps [] w w' := by
  obtain ⟨⟨v, h1, h2, h3, h4, h5⟩, _⟩ := h
  exact RNext_q h1
theorem when_b (h : It w (true, b, L, none) C) (id : Int) : Calls Try.prog 19 #[.pointer (some ⟨b, 0, none⟩), .int .i64 id] w fun e w' => e = .returned (.tuple #[.int .i64 (whenQ L id).1, .bool (whenQ L id).2]) ∧ Keeps [] w w' := by
  obtain ⟨⟨O, h1, h2⟩, _⟩ := h
  exact When_q h1 id
theorem when_r (h : It w (false, b, L, none) C) (id : Int) : Calls Try.prog 28 #[.pointer (some ⟨b, 0, none⟩), .int .i64 id] w fun e w' => e = .returned (.tuple #[.int .i64 (whenQ L id).1, .bool (whenQ L id).2]) ∧ Keeps [] w w' := by
  obtain ⟨⟨v, h1, h2, h3, h4, h5⟩, _⟩ := h
  refine (RWhen_q h1 id (by omega)).mono ?_
  rintro e w' ⟨he, rfl⟩
  exact ⟨he, Keeps.refl _ _⟩
theorem len_b (h : It w (true, b, L, none) C) : Calls Try.prog 14 #[.pointer (some ⟨b, 0, none⟩)] w fun e w' => e = .returned (.int .i64 L.length) ∧ w = w' := by
  obtain ⟨⟨O, h1, h2⟩, _⟩ := h
  exact Len_q h1
theorem len_r (h : It w (false, b, L, none) C) : Calls Try.prog 29 #[.pointer (some ⟨b, 0, none⟩)] w fun e w' => e = .returned (.int .i64 L.length) ∧ w = w' := by
  obtain ⟨⟨v, h1, h2, h3, h4, h5⟩, _⟩ := h
  exact RLen_q h1
/-- What was given is forgotten. -/
theorem It.bare {t : Bool} {g : Option (Value × List Int)} (h : It w (t, b, L, g) C) : It w (t, b, L, none) C := by
  cases t with
  | true => exact ⟨h.1, trivial⟩
  | false => exact ⟨h.1, trivial⟩
end
end Go.Proofs.Ytognnjaefaoefaa
