/- Things that a call may change alone: each thing has its own blocks. A list of things in one world; a call turns one of them, makes a new one, or reads. No condition. -/
import Derived.Test.YtognnjaefaoefaaKit
namespace Go.Proofs.Ytognnjaefaoefaa
open Go.RowKit

/-- What is asked of a kind of things: 'It w it C' says that the thing it lies in blocks of which C holds. -/
structure Frame {ι : Type} (It : World → ι → (Nat → Prop) → Prop) : Prop where
  keeps : ∀ {w w' : World} {it : ι} {C : Nat → Prop} {S : List Nat}, It w it C → Keeps S w w' → (∀ x ∈ S, x < w.heap.size → ¬ C x) → It w' it C
  mono : ∀ {w : World} {it : ι} {C D : Nat → Prop}, It w it C → (∀ x, x < w.heap.size → C x → D x) → It w it D
/-- All the things of a list, each in blocks of its own, made since w0. -/
def All {ι : Type} (It : World → ι → (Nat → Prop) → Prop) (w0 w : World) (its : List ι) : Prop :=
  ∃ c : Nat → Nat, (∀ k it, its[k]? = some it → It w it (fun x => c x = k)) ∧ (∀ x, x < w.heap.size → c x < its.length → w0.heap.size ≤ x) ∧ Keeps [] w0 w
/-- A thing was turned. -/
def Chg {ι : Type} (It : World → ι → (Nat → Prop) → Prop) (w w' : World) (C : Nat → Prop) (it : ι) : Prop :=
  ∃ S : List Nat, Keeps S w w' ∧ (∀ x ∈ S, x < w.heap.size → C x) ∧ It w' it (fun x => C x ∨ w.heap.size ≤ x)
section
variable {ι : Type} {It : World → ι → (Nat → Prop) → Prop} {w0 w w' : World} {its : List ι} {it : ι} {C : Nat → Prop}
theorem Chg.same (F : Frame It) (h : It w it C) (k : Keeps [] w w') : Chg It w w' C it :=
  ⟨[], k, by simp, F.mono (F.keeps h k (by simp)) (fun _ _ h => .inl h)⟩
theorem Chg.in_ (F : Frame It) {S : List Nat} {it' : ι} (h : It w' it' C) (k : Keeps S w w') (hS : ∀ x ∈ S, C x) : Chg It w w' C it' :=
  ⟨S, k, fun x hx _ => hS x hx, F.mono h (fun _ _ h => .inl h)⟩
theorem All.none (w : World) : All It w w [] := ⟨fun _ => 0, fun k it h => by simp at h, fun x _ h => by simp at h, Keeps.refl _ _⟩
theorem All.keeps (h : All It w0 w its) : Keeps [] w0 w := by obtain ⟨c, _, _, h⟩ := h; exact h
theorem All.get (h : All It w0 w its) {k : Nat} (hk : its[k]? = some it) : ∃ C, It w it C := by
  obtain ⟨c, h1, _⟩ := h
  exact ⟨_, h1 k it hk⟩
theorem All.keep0 (F : Frame It) (h : All It w0 w its) (k : Keeps [] w w') : All It w0 w' its := by
  obtain ⟨c, h1, h2, h3⟩ := h
  refine ⟨c, fun j jt hj => F.keeps (h1 j jt hj) k (by simp), fun x hx hc => ?_, h3.trans k⟩
  by_cases hw : x < w.heap.size
  · exact h2 x hw hc
  · have := h3.size; omega
/-- A call that turns one thing, and may read the others. -/
theorem All.call2 (F : Frame It) {P : Program} {f : FuncId} {args : Array Value} {e0 : Ending} {k : Nat} {it' : ι} (h : All It w0 w its) (hk : its[k]? = some it)
    (hc : ∀ C, It w it C → (∀ j jt, j ≠ k → its[j]? = some jt → ∃ D, It w jt D ∧ ∀ x, C x → ¬ D x) → Calls P f args w fun e w' => e = e0 ∧ Chg It w w' C it') :
    Calls P f args w fun e w' => e = e0 ∧ All It w0 w' (its.set k it') := by
  obtain ⟨c, h1, h2, h3⟩ := h
  have hq := hc _ (h1 k it hk) (fun j jt hj hjt => ⟨_, h1 j jt hjt, fun x hx hx2 => hj (by omega)⟩)
  refine hq.mono ?_
  rintro e w' ⟨he, S, kS, hS, hI⟩
  refine ⟨he, ?_⟩
  have hkl : k < its.length := (List.getElem?_eq_some_iff.1 hk).1
  have hz := h3.size
  refine ⟨fun x => if w.heap.size ≤ x then k else c x, fun j jt hj => ?_, fun x hx hcx => ?_, h3.step kS (fun x hx => .inr ?_)⟩
  · by_cases hjk : j = k
    · subst hjk
      rw [List.getElem?_set_self hkl] at hj
      injection hj with hj
      subst hj
      refine F.mono hI (fun x _ hx => ?_)
      show (if w.heap.size ≤ x then j else c x) = j
      rcases hx with hx | hx
      · split
        · rfl
        · exact hx
      · rw [if_pos hx]
    · rw [List.getElem?_set_ne (fun e => hjk e.symm)] at hj
      refine F.keeps (F.mono (h1 j jt hj) (fun x hx hcx => ?_)) kS (fun x hx hxw hcx => ?_)
      · show (if w.heap.size ≤ x then k else c x) = j
        rw [if_neg (by omega)]; exact hcx
      · replace hcx : (if w.heap.size ≤ x then k else c x) = j := hcx
        rw [if_neg (by omega)] at hcx
        have := hS x hx hxw
        exact hjk (by omega)
  · replace hcx : (if w.heap.size ≤ x then k else c x) < (its.set k it').length := hcx
    rw [List.length_set] at hcx
    by_cases hw : w.heap.size ≤ x
    · omega
    · rw [if_neg hw] at hcx
      exact h2 x (by omega) hcx
  · by_cases hw : x < w.heap.size
    · exact h2 x hw (by rw [hS x hx hw]; exact hkl)
    · omega
/-- A call that turns one thing. -/
theorem All.call (F : Frame It) {P : Program} {f : FuncId} {args : Array Value} {e0 : Ending} {k : Nat} {it' : ι} (h : All It w0 w its) (hk : its[k]? = some it)
    (hc : ∀ C, It w it C → Calls P f args w fun e w' => e = e0 ∧ Chg It w w' C it') :
    Calls P f args w fun e w' => e = e0 ∧ All It w0 w' (its.set k it') := h.call2 F hk (fun C hC _ => hc C hC)
/-- A new thing. -/
theorem All.push (F : Frame It) (h : All It w0 w its) (kS : Keeps [] w w') (hI : It w' it (fun x => w.heap.size ≤ x)) : All It w0 w' (its ++ [it]) := by
  obtain ⟨c, h1, h2, h3⟩ := h
  have hz := h3.size
  refine ⟨fun x => if w.heap.size ≤ x then its.length else if c x < its.length then c x else its.length + 1, fun j jt hj => ?_, fun x hx hcx => ?_, h3.trans kS⟩
  · by_cases hjl : j < its.length
    · rw [List.getElem?_append_left hjl] at hj
      refine F.keeps (F.mono (h1 j jt hj) (fun x hx hcx => ?_)) kS (by simp)
      replace hcx : c x = j := hcx
      show (if w.heap.size ≤ x then its.length else if c x < its.length then c x else its.length + 1) = j
      rw [if_neg (by omega), if_pos (by omega)]
      exact hcx
    · rw [List.getElem?_append_right (by omega)] at hj
      have hj0 : j - its.length = 0 := by
        have := (List.getElem?_eq_some_iff.1 hj).1
        simp at this
        omega
      rw [hj0] at hj
      simp at hj
      subst hj
      have hjj : j = its.length := by omega
      subst hjj
      exact F.mono hI (fun x _ hx => by
        show (if w.heap.size ≤ x then its.length else if c x < its.length then c x else its.length + 1) = its.length
        rw [if_pos hx])
  · replace hcx : (if w.heap.size ≤ x then its.length else if c x < its.length then c x else its.length + 1) < (its ++ [it]).length := hcx
    rw [List.length_append, List.length_singleton] at hcx
    by_cases hw : w.heap.size ≤ x
    · omega
    · rw [if_neg hw] at hcx
      split at hcx
      · exact h2 x (by omega) (by assumption)
      · omega
/-- Some of the things, in another order. -/
theorem All.pick (F : Frame It) (h : All It w0 w its) (its' : List ι) (g : Nat → Nat) (h1 : ∀ j jt, its'[j]? = some jt → ∃ k, its[k]? = some jt ∧ g k = j) (h2 : ∀ k, g k < its'.length → k < its.length) : All It w0 w its' := by
  obtain ⟨c, i1, i2, i3⟩ := h
  refine ⟨fun x => g (c x), fun j jt hj => ?_, fun x hx hcx => i2 x hx (h2 _ hcx), i3⟩
  obtain ⟨k, hk, hg⟩ := h1 j jt hj
  exact F.mono (i1 k jt hk) (fun x _ hx => by
    show g (c x) = j
    rw [show c x = k from hx, hg])
theorem All.dr (F : Frame It) (h : All It w0 w its) : All It w0 w.drew its := h.keep0 F (Keeps.refl [] w).drew
end
/-- Things, and blocks known whole. -/
def BoxIt {ι : Type} (It : World → ι → (Nat → Prop) → Prop) (w : World) : (ι ⊕ (Nat × TypeId × Array Value)) → (Nat → Prop) → Prop
  | .inl it, C => It w it C
  | .inr (b, t, cs), C => Blk w b t cs ∧ C b
theorem boxFrame {ι : Type} {It : World → ι → (Nat → Prop) → Prop} (F : Frame It) : Frame (BoxIt It) := by
  constructor
  · intro w w' it C S h k hS
    cases it with
    | inl it => exact F.keeps (it := it) h k hS
    | inr x =>
      obtain ⟨b, t, cs⟩ := x
      exact ⟨h.1.keeps k (fun hx => hS _ hx h.1.lt h.2), h.2⟩
  · intro w it C D h hD
    cases it with
    | inl it => exact F.mono (it := it) h hD
    | inr x =>
      obtain ⟨b, t, cs⟩ := x
      exact ⟨h.1, hD _ h.1.lt h.2⟩
theorem All.box {ι : Type} {It : World → ι → (Nat → Prop) → Prop} {w0 w : World} {its : List (ι ⊕ (Nat × TypeId × Array Value))} (h : All (BoxIt It) w0 w its) {k b : Nat} {t : TypeId} {cs : Array Value} (hk : its[k]? = some (.inr (b, t, cs))) : Blk w b t cs := by
  obtain ⟨C, hC⟩ := h.get hk
  exact hC.1
/-- A new block. -/
theorem All.alloc {ι : Type} {It : World → ι → (Nat → Prop) → Prop} (F : Frame It) {w0 w : World} {its : List (ι ⊕ (Nat × TypeId × Array Value))} (h : All (BoxIt It) w0 w its) (t : TypeId) (cs : Array Value) : All (BoxIt It) w0 (w.alloc (.cells cs t)) (its ++ [.inr (w.heap.size, t, cs)]) :=
  h.push (boxFrame F) ((Keeps.refl [] w).alloc _) ⟨Blk.new w t cs, Nat.le_refl _⟩
/-- A call that turns one thing, beside blocks. -/
theorem All.callI {ι : Type} {It : World → ι → (Nat → Prop) → Prop} (F : Frame It) {w0 w : World} {its : List (ι ⊕ (Nat × TypeId × Array Value))} {it it' : ι} {P : Program} {f : FuncId} {args : Array Value} {e0 : Ending} (k : Nat) (h : All (BoxIt It) w0 w its) (hk : its[k]? = some (.inl it))
    (hc : ∀ C, It w it C → Calls P f args w fun e w' => e = e0 ∧ Chg It w w' C it') : Calls P f args w fun e w' => e = e0 ∧ All (BoxIt It) w0 w' (its.set k (.inl it')) :=
  h.call (boxFrame F) (it' := .inl it') hk hc
/-- .. and reads another one. -/
theorem All.callI2 {ι : Type} {It : World → ι → (Nat → Prop) → Prop} (F : Frame It) {w0 w : World} {its : List (ι ⊕ (Nat × TypeId × Array Value))} {it it' jt : ι} {P : Program} {f : FuncId} {args : Array Value} {e0 : Ending} (k j : Nat) (hkj : j ≠ k) (h : All (BoxIt It) w0 w its) (hk : its[k]? = some (.inl it)) (hj : its[j]? = some (.inl jt))
    (hc : ∀ C D, It w it C → It w jt D → (∀ x, C x → ¬ D x) → Calls P f args w fun e w' => e = e0 ∧ Chg It w w' C it') : Calls P f args w fun e w' => e = e0 ∧ All (BoxIt It) w0 w' (its.set k (.inl it')) :=
  h.call2 (boxFrame F) (it' := .inl it') hk (fun C hC hD => by
    obtain ⟨D, h1, h2⟩ := hD j _ hkj hj
    exact hc C D hC h1 h2)
/-- A call that makes a thing. -/
theorem All.pushI {ι : Type} {It : World → ι → (Nat → Prop) → Prop} (F : Frame It) {w0 w w' : World} {its : List (ι ⊕ (Nat × TypeId × Array Value))} {it : ι} (h : All (BoxIt It) w0 w its) (k : Keeps [] w w') (hI : It w' it (fun x => w.heap.size ≤ x)) : All (BoxIt It) w0 w' (its ++ [.inl it]) :=
  h.push (boxFrame F) k hI
end Go.Proofs.Ytognnjaefaoefaa
