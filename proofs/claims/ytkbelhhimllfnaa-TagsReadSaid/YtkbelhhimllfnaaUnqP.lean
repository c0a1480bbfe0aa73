/- Plain laws on quoted forms: what is read stands there, and a quoted form is read back. No condition. -/
import Derived.Test.YtkbelhhimllfnaaWorks
namespace Go.Proofs.Ytkbelhhimllfnaa
open Go.Lib

theorem escs_nil : escs [] = [] := rfl
theorem escs_cons (c : UInt8) (u : List UInt8) : escs (c :: u) = escB c ++ escs u := by simp [escs]
theorem unq_inv : ∀ (cs : List UInt8) (esc : Bool) (out : List UInt8) (n : Nat) (t : List UInt8) (m : Nat), unq cs esc out n = some (t, m) →
    (esc = false → ∃ u rest, t = out ++ u ∧ cs = escs u ++ 34 :: rest ∧ m = n + (escs u).length + 1) ∧
    (esc = true → ∃ c u rest, (c = 34 ∨ c = 92) ∧ t = out ++ c :: u ∧ cs = c :: (escs u ++ 34 :: rest) ∧ m = n + 1 + (escs u).length + 1)
  | [], esc, out, n, t, m, h => by cases esc <;> cases h
  | c :: cs, true, out, n, t, m, h => by
    rw [unq] at h
    split at h
    · cases h
    · rename_i hc
      have hc' : c = 34 ∨ c = 92 := by
        by_cases h1 : c = 34
        · exact .inl h1
        · by_cases h2 : c = 92
          · exact .inr h2
          · exact absurd ⟨h1, h2⟩ hc
      obtain ⟨h1, _⟩ := unq_inv cs false _ _ t m h
      obtain ⟨u, rest, e1, e2, e3⟩ := h1 rfl
      refine ⟨(fun e => by cases e), fun _ => ⟨c, u, rest, hc', by rw [e1]; simp, by rw [e2], e3⟩⟩
  | c :: cs, false, out, n, t, m, h => by
    rw [unq] at h
    split at h
    · rename_i hc
      obtain ⟨_, h1⟩ := unq_inv cs true _ _ t m h
      obtain ⟨d, u, rest, hd, e1, e2, e3⟩ := h1 rfl
      refine ⟨fun _ => ⟨d :: u, rest, e1, ?_, ?_⟩, (fun e => by cases e)⟩
      · rw [escs_cons, e2, hc]
        unfold escB
        rw [if_pos hd]
        simp
      · rw [escs_cons, e3]
        unfold escB
        rw [if_pos hd]
        simp only [List.length_append, List.length_cons, List.length_nil]
        omega
    · rename_i hc
      split at h
      · rename_i hc2
        injection h with h
        injection h with e1 e2
        exact ⟨fun _ => ⟨[], cs, by rw [← e1]; simp, by rw [hc2]; rfl, by rw [← e2]; rfl⟩, (fun e => by cases e)⟩
      · rename_i hc2
        obtain ⟨h1, _⟩ := unq_inv cs false _ _ t m h
        obtain ⟨u, rest, e1, e2, e3⟩ := h1 rfl
        have hb : escB c = [c] := by unfold escB; rw [if_neg (by rintro (h | h); exact hc2 h; exact hc h)]
        refine ⟨fun _ => ⟨c :: u, rest, by rw [e1]; simp, by rw [escs_cons, hb, e2]; rfl, ?_⟩, (fun e => by cases e)⟩
        rw [escs_cons, hb, e3]
        simp only [List.length_append, List.length_cons, List.length_nil]
        omega
theorem unq_escs : ∀ (u : List UInt8) (rest out : List UInt8) (n : Nat), unq (escs u ++ 34 :: rest) false out n = some (out ++ u, n + (escs u).length + 1)
  | [], rest, out, n => by
    rw [escs_nil, List.nil_append, unq, if_neg (by decide), if_pos rfl]
    simp
  | c :: u, rest, out, n => by
    rw [escs_cons]
    unfold escB
    split
    · rename_i hc
      rw [show [92, c] ++ escs u ++ 34 :: rest = 92 :: c :: (escs u ++ 34 :: rest) by simp, unq, if_pos rfl, unq, if_neg (by rcases hc with rfl | rfl <;> simp), unq_escs u]
      simp only [List.length_append, List.length_cons, List.length_nil, List.append_assoc, List.cons_append, List.nil_append]
      congr 2
      omega
    · rename_i hc
      rw [show [c] ++ escs u ++ 34 :: rest = c :: (escs u ++ 34 :: rest) by simp, unq, if_neg (fun e => hc (.inr e)), if_neg (fun e => hc (.inl e)), unq_escs u]
      simp only [List.length_append, List.length_cons, List.length_nil, List.append_assoc, List.cons_append, List.nil_append]
      congr 2
      omega
theorem unq_short : ∀ (u : List UInt8) (k : Nat) (out : List UInt8) (n : Nat), k ≤ (escs u).length → unq ((escs u ++ [34]).take k) false out n = none
  | [], k, out, n, h => by
    have : k = 0 := by simpa [escs] using h
    subst this
    rfl
  | c :: u, k, out, n, h => by
    rw [escs_cons] at h ⊢
    unfold escB at h ⊢
    split
    · rename_i hc
      rw [if_pos hc] at h
      match k with
      | 0 => rfl
      | 1 => simp [unq]
      | k + 2 =>
        simp only [List.cons_append, List.nil_append, List.take_succ_cons, List.append_assoc]
        rw [unq, if_pos rfl, unq, if_neg (by rcases hc with rfl | rfl <;> simp)]
        exact unq_short u k _ _ (by simp at h; omega)
    · rename_i hc
      rw [if_neg hc] at h
      match k with
      | 0 => rfl
      | k + 1 =>
        simp only [List.cons_append, List.nil_append, List.take_succ_cons, List.append_assoc]
        rw [unq, if_neg (fun e => hc (.inr e)), if_neg (fun e => hc (.inl e))]
        exact unq_short u k _ _ (by simp at h; omega)

/-- What Unquote answers, in three ways. -/
theorem unquote_cases (l : List UInt8) : (∃ t, isTag t = true ∧ unquote l = (t, (quoteOf t).length, 0) ∧ ∃ rest, l = quoteOf t ++ rest) ∨ unquote l = ([], 0, 9) ∨ unquote l = ([], 0, 16) := by
  cases l with
  | nil => exact .inr (.inl rfl)
  | cons c cs =>
    unfold unquote
    dsimp only
    split
    · rename_i hc
      cases hu : unq cs false [] 1 with
      | none => exact .inr (.inl rfl)
      | some p =>
        obtain ⟨t, m⟩ := p
        dsimp only
        cases ht : isTag t with
        | false => exact .inr (.inr rfl)
        | true =>
          obtain ⟨h1, _⟩ := unq_inv cs false _ _ t m hu
          obtain ⟨u, rest, e1, e2, e3⟩ := h1 rfl
          rw [List.nil_append] at e1
          subst e1
          refine .inl ⟨t, ht, ?_, rest, ?_⟩
          · simp only [if_true]
            rw [e3]
            unfold quoteOf
            simp only [List.length_append, List.length_cons, List.length_nil]
            congr 2
            omega
          · rw [hc, e2]
            unfold quoteOf
            simp
    · exact .inr (.inl rfl)
theorem unquote_quote {t : List UInt8} (h : isTag t = true) (more : List UInt8) : unquote (quoteOf t ++ more) = (t, (quoteOf t).length, 0) := by
  unfold quoteOf
  rw [List.cons_append, unquote]
  rw [if_pos rfl]
  rw [show escs t ++ [34] ++ more = escs t ++ 34 :: more by simp, unq_escs]
  simp only [List.nil_append, h, if_true, List.length_append, List.length_cons, List.length_nil]
  congr 2
  omega
theorem unquote_short (t : List UInt8) {k : Nat} (h : k < (quoteOf t).length) : unquote ((quoteOf t).take k) = ([], 0, 9) := by
  unfold quoteOf at h ⊢
  match k with
  | 0 => rfl
  | k + 1 =>
    rw [List.take_succ_cons, unquote, if_pos rfl, unq_short t k [] 1 (by simp at h; omega)]
end Go.Proofs.Ytkbelhhimllfnaa
