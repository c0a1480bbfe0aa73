/- The document's Set as a turn of a thing; facts on lists of things. Condition: queues that New or Copy returned. -/
import Derived.Test.YtognnjaefaoefaaThing
import Derived.Test.YtognnjaefaoefaaRSet
import Derived.Test.YtognnjaefaoefaaRSetE
import Derived.Test.YtognnjaefaoefaaSet
namespace Go.Proofs.Ytognnjaefaoefaa
open Go.RowKit

theorem RSet_q {w : World} {b : Nat} {v : Value} {L : List (Int × Int)} (h : RQ w b v L) (hg : Good L) (hl : L.length ≤ 256) (id a : Int) :
    Calls Try.prog 21 #[.pointer (some ⟨b, 0, none⟩), .int .i64 id, .int .i64 a] w fun e w' => e = .returned (.int .i64 (setErr L id a)) ∧ RTurned w w' b v (setL L id a) := by
  by_cases ha : a < 0 ∨ 1099511627776 < a
  · have he : setErr L id a = 2 := if_pos ha
    have hL : setL L id a = L := by unfold setL; rw [he, if_neg (by decide)]
    rw [he, hL]
    exact RSet_arg h id a ha
  · have ha1 : ¬ a < 0 := by omega
    have ha2 : ¬ 1099511627776 < a := by omega
    by_cases hp : ¬ placeOf L id < L.length ∧ 256 ≤ L.length
    · have he : setErr L id a = 4 := by unfold setErr; rw [if_neg ha, if_pos hp]
      have hL : setL L id a = L := by unfold setL; rw [he, if_neg (by decide)]
      rw [he, hL]
      exact RSet_full h hg (by omega) id a ha1 ha2 hp.1 hp.2
    · have he : setErr L id a = 0 := by unfold setErr; rw [if_neg ha, if_neg hp]
      have hL : setL L id a = insE (id, a) (dropE L id) := by unfold setL; rw [he, if_pos rfl]; rfl
      rw [he, hL]
      exact RSet_ok h hg hl id a ha1 ha2 hp
theorem set_r {w : World} {b : Nat} {L : List (Int × Int)} {C : Nat → Prop} (h : It w (false, b, L, none) C) (id a : Int) : Calls Try.prog 21 #[.pointer (some ⟨b, 0, none⟩), .int .i64 id, .int .i64 a] w fun e w' => e = .returned (.int .i64 (setErr L id a)) ∧ Chg It w w' C (false, b, setL L id a, none) := by
  obtain ⟨⟨v, h1, h2, h3, h4, h5⟩, _⟩ := h
  exact (RSet_q h1 h4 h5 id a).mono fun e w' ⟨he, ht⟩ => ⟨he, ht.chg h2 h3 (setL_ok h4 h5).1 (setL_ok h4 h5).2⟩
abbrev BI := BoxIt It
theorem biFrame : Frame BI := boxFrame itFrame
abbrev Th := Thing ⊕ (Nat × TypeId × Array Value)
/-- The two queues. -/
abbrev two (b c : Nat) (L : List (Int × Int)) : List Th := [.inl (true, b, L, none), .inl (false, c, L, none)]
/-- The two queues, and the block of a step. -/
abbrev twoX (b c : Nat) (L M : List (Int × Int)) (X : Nat) (cs : Array Value) : List Th := [.inl (true, b, L, none), .inl (false, c, M, none), .inr (X, 46, cs)]
theorem pick_two {w0 w : World} {a0 a1 a2 : Th} (h : All BI w0 w [a0, a1, a2]) : All BI w0 w [a0, a1] :=
  h.pick biFrame _ (fun k => k) (by
    intro j jt hj
    match j, hj with
    | 0, hj => exact ⟨0, hj, rfl⟩
    | 1, hj => exact ⟨1, hj, rfl⟩
    | j + 2, hj => simp at hj) (fun k hk => by simp at hk ⊢; omega)
theorem pick_new {w0 w : World} {a0 a1 a2 a3 a4 : Th} (h : All BI w0 w [a0, a1, a2, a3, a4]) : All BI w0 w [a3, a4, a2] :=
  h.pick biFrame _ (fun k => [100, 100, 2, 0, 1].getD k 100) (by
    intro j jt hj
    match j, hj with
    | 0, hj => exact ⟨3, hj, rfl⟩
    | 1, hj => exact ⟨4, hj, rfl⟩
    | 2, hj => exact ⟨2, hj, rfl⟩
    | j + 3, hj => simp at hj) (fun k hk => by
      by_cases h : k < 5
      · exact h
      · rw [List.getD_eq_getElem?_getD, List.getElem?_eq_none (by simp; omega)] at hk
        simp at hk)
/-- What was given is forgotten. -/
theorem forget_two {w0 w : World} {b c : Nat} {L M : List (Int × Int)} {g g' : Option (Value × List Int)} {r : List Th} (h : All BI w0 w (.inl (true, b, L, g) :: .inl (false, c, M, g') :: r)) : All BI w0 w (.inl (true, b, L, none) :: .inl (false, c, M, none) :: r) := by
  obtain ⟨cl, h1, h2, h3⟩ := h
  refine ⟨cl, fun k it hk => ?_, h2, h3⟩
  match k, hk with
  | 0, hk =>
    obtain rfl : Sum.inl (true, b, L, none) = it := by simpa using hk
    exact It.bare (show It w (true, b, L, g) (fun x => cl x = 0) from h1 0 _ rfl)
  | 1, hk =>
    obtain rfl : Sum.inl (false, c, M, none) = it := by simpa using hk
    exact It.bare (show It w (false, c, M, g') (fun x => cl x = 1) from h1 1 _ rfl)
  | k + 2, hk => exact h1 (k + 2) it (by simpa using hk)
theorem gave_of {w0 w : World} {its : List Th} (h : All BI w0 w its) (k : Nat) {t : Bool} {b : Nat} {L : List (Int × Int)} {o : Value} {xs : List Int} (hk : its[k]? = some (.inl (t, b, L, some (o, xs)))) : SlI w o xs := by
  obtain ⟨C, hC⟩ := h.get hk
  cases t with
  | true => exact (show It w (true, b, L, some (o, xs)) C from hC).2.1
  | false => exact (show It w (false, b, L, some (o, xs)) C from hC).2.1
section
variable {w0 w : World} {its : List Th} {b : Nat} {L : List (Int × Int)}
/-- A call that only reads a thing. -/
theorem read_of {P : Program} {f : FuncId} {args : Array Value} {e0 : Ending} (h : All BI w0 w its) (k : Nat) {it : Thing} (hk : its[k]? = some (.inl it)) (hc : ∀ C, It w it C → Calls P f args w fun e w' => e = e0 ∧ Keeps [] w w') :
    Calls P f args w fun e w' => e = e0 ∧ All BI w0 w' its := by
  obtain ⟨C, hC⟩ := h.get hk
  exact (hc C hC).mono fun e w' ⟨he, hw⟩ => ⟨he, h.keep0 biFrame hw⟩
theorem due_bI (h : All BI w0 w its) (k : Nat) (hk : its[k]? = some (.inl (true, b, L, none))) (now : Int) :
    Calls Try.prog 13 #[.pointer (some ⟨b, 0, none⟩), .int .i64 now] w fun e w' => ∃ o, e = .returned o ∧ All BI w0 w' (its.set k (.inl (true, b, L.drop (dueN L now), some (o, idsOf (L.take (dueN L now)))))) := by
  refine (h.callE biFrame (R := fun e it' => ∃ o, e = .returned o ∧ it' = .inl (true, b, L.drop (dueN L now), some (o, idsOf (L.take (dueN L now))))) hk (fun C hC => ?_)).mono ?_
  · refine (due_b (show It w (true, b, L, none) C from hC) now).mono ?_
    rintro e w' ⟨it', ⟨o, he, rfl⟩, hg⟩
    exact ⟨_, ⟨o, he, rfl⟩, hg⟩
  · rintro e w' ⟨it', ⟨o, he, rfl⟩, hA⟩
    exact ⟨o, he, hA⟩
theorem due_rI (h : All BI w0 w its) (k : Nat) (hk : its[k]? = some (.inl (false, b, L, none))) (now : Int) :
    Calls Try.prog 24 #[.pointer (some ⟨b, 0, none⟩), .int .i64 now] w fun e w' => ∃ o, e = .returned o ∧ All BI w0 w' (its.set k (.inl (false, b, L.drop (dueN L now), some (o, idsOf (L.take (dueN L now)))))) := by
  refine (h.callE biFrame (R := fun e it' => ∃ o, e = .returned o ∧ it' = .inl (false, b, L.drop (dueN L now), some (o, idsOf (L.take (dueN L now))))) hk (fun C hC => ?_)).mono ?_
  · refine (due_r (show It w (false, b, L, none) C from hC) now).mono ?_
    rintro e w' ⟨it', ⟨o, he, rfl⟩, hg⟩
    exact ⟨_, ⟨o, he, rfl⟩, hg⟩
  · rintro e w' ⟨it', ⟨o, he, rfl⟩, hA⟩
    exact ⟨o, he, hA⟩
end
end Go.Proofs.Ytognnjaefaoefaa
