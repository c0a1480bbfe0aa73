/- The program's buffer and the document's, side by side. No condition. -/
import Derived.Test.YtmojlfkjbnokcaaRbuf4
import Derived.Test.YtmojlfkjbnokcaaDrain
namespace Go.Proofs.Ytmojlfkjbnokcaa
open Go.RowKit
set_option linter.unusedVariables false

section
variable {w w' : World} {B b r sz : Nat} {v : Value} {L : List Int} {wh : Bool} {S : List Nat}
/-- Both hold the same. -/
structure Two (w : World) (B b r sz : Nat) (v : Value) (L : List Int) (wh : Bool) : Prop where
  buf : IsBuf w b sz L wh
  ref : IsRef w B r sz v L wh
  hb : B ≤ b
  hr : B ≤ r
/-- The blocks in which they lie. -/
def blocks (b r : Nat) (v : Value) : List Nat := b :: r :: v.ownBlock.toList
theorem Two.keeps (t : Two w B b r sz v L wh) (k : Keeps S w w') (h : ∀ x ∈ blocks b r v, x ∉ S) : Two w' B b r sz v L wh :=
  ⟨t.buf.keeps k (h b (by simp [blocks])), t.ref.keeps k (h r (by simp [blocks])) (fun x hx => h x (by simp [blocks, hx])), t.hb, t.hr⟩
theorem Two.lt (t : Two w B b r sz v L wh) : ∀ x ∈ blocks b r v, B ≤ x ∧ x < w.heap.size := by
  intro x hx
  simp only [blocks, List.mem_cons, Option.mem_toList] at hx
  rcases hx with rfl | rfl | hx
  · exact ⟨t.hb, t.buf.lt⟩
  · exact ⟨t.hr, t.ref.lt⟩
  · exact t.ref.own.lt x hx
theorem Two.bNe (t : Two w B b r sz v L wh) : b ≠ r ∧ ∀ x, v.ownBlock = some x → x ≠ b := by
  obtain ⟨ring, f, hb, _⟩ := t.buf
  refine ⟨hb.ne t.ref.blk (by decide), fun x hx e => ?_⟩
  subst e
  rcases t.ref.own.form with ⟨rfl, _⟩ | ⟨g, cap, cur, rfl, _, hb', _⟩
  · cases hx
  · cases hx
    exact absurd rfl (hb'.ne hb (by decide))
/-- Behind a call of each of them. -/
def TwoPost (B b r sz : Nat) (v : Value) (L : List Int) (wh : Bool) (w w' : World) : Prop :=
  ∃ v', Two w' B b r sz v' L wh ∧ Keeps (blocks b r v) w w' ∧ ∀ x, v'.ownBlock = some x → v.ownBlock = some x ∨ w.heap.size ≤ x

def noteB (s : Int) (L : List Int) (sz : Nat) : Bool := decide (0 ≤ s ∧ s < 256 ∧ L.length < sz)
def noteE (s : Int) : Int := if 0 ≤ s ∧ s < 256 then 0 else 3
def noteL (s : Int) (L : List Int) (sz : Nat) : List Int := if 0 ≤ s ∧ s < 256 ∧ L.length < sz then L ++ [s] else L
def noteW (s : Int) (L : List Int) (sz : Nat) (wh : Bool) : Bool := if 0 ≤ s ∧ s < 256 ∧ sz ≤ L.length then false else wh
theorem note_any (h : IsBuf w b sz L wh) (s : Int) : Calls Try.prog 12 #[.pointer (some ⟨b, 0, none⟩), .int .i64 s] w (BufPost (.tuple #[.bool (noteB s L sz), .int .i64 (noteE s)]) b sz (noteL s L sz) (noteW s L sz wh) w) := by
  have hle := h.le
  unfold noteB noteE noteL noteW
  by_cases hs : 0 ≤ s ∧ s < 256
  · by_cases hl : L.length < sz
    · rw [decide_eq_true ⟨hs.1, hs.2, hl⟩, if_pos hs, if_pos ⟨hs.1, hs.2, hl⟩, if_neg (fun h => by omega)]
      have := note_ok h s hs.1 hs.2 hl
      exact this
    · rw [decide_eq_false (fun h => hl h.2.2), if_pos hs, if_neg (fun h => hl h.2.2), if_pos ⟨hs.1, hs.2, by omega⟩]
      exact note_full h s hs.1 hs.2 (by omega)
  · rw [decide_eq_false (fun h => hs ⟨h.1, h.2.1⟩), if_neg hs, if_neg (fun h => hs ⟨h.1, h.2.1⟩), if_neg (fun h => hs ⟨h.1, h.2.1⟩)]
    refine (note_range h s (by omega)).mono ?_
    rintro e w' ⟨rfl, rfl⟩
    exact ⟨rfl, h, Keeps.refl _ _⟩
theorem rnote_any (h : IsRef w B r sz v L wh) (hl : L.length ≤ sz) (h64 : sz ≤ 64) (s : Int) : Calls Try.prog 21 #[.pointer (some ⟨r, 0, none⟩), .int .i64 s] w (RefPost (.tuple #[.bool (noteB s L sz), .int .i64 (noteE s)]) B r sz v (noteL s L sz) (noteW s L sz wh) w) := by
  unfold noteB noteE noteL noteW
  by_cases hs : 0 ≤ s ∧ s < 256
  · by_cases hl' : L.length < sz
    · rw [decide_eq_true ⟨hs.1, hs.2, hl'⟩, if_pos hs, if_pos ⟨hs.1, hs.2, hl'⟩, if_neg (fun h => by omega)]
      exact rnote_ok h s hs.1 hs.2 hl' h64
    · rw [decide_eq_false (fun h => hl' h.2.2), if_pos hs, if_neg (fun h => hl' h.2.2), if_pos ⟨hs.1, hs.2, by omega⟩]
      exact rnote_full h s hs.1 hs.2 (by omega)
  · rw [decide_eq_false (fun h => hs ⟨h.1, h.2.1⟩), if_neg hs, if_neg (fun h => hs ⟨h.1, h.2.1⟩), if_neg (fun h => hs ⟨h.1, h.2.1⟩)]
    exact rnote_range h s (by omega)
def drE (k : Int) : Int := if k < 0 then 2 else 0
def drT (k : Int) (L : List Int) : List Int := if k < 0 then [] else L.take k.toNat
def drD (k : Int) (L : List Int) : List Int := if k < 0 then L else L.drop k.toNat
def DrainAny (b sz : Nat) (L : List Int) (k : Int) (wh : Bool) (w : World) (e : Ending) (w' : World) : Prop :=
  ∃ v, e = .returned (.tuple #[v, .int .i64 (drE k)]) ∧ OwnI w' w.heap.size v (drT k L) ∧ IsBuf w' b sz (drD k L) wh ∧ Keeps [b] w w'
theorem drain_any (h : IsBuf w b sz L wh) (k : Int) (hk : k ≤ 9223372036854775807) : Calls Try.prog 11 #[.pointer (some ⟨b, 0, none⟩), .int .i64 k] w (DrainAny b sz L k wh w) := by
  unfold DrainAny drE drT drD
  by_cases hs : k < 0
  · rw [if_pos hs, if_pos hs, if_pos hs]
    refine (drain_neg h k hs).mono ?_
    rintro e w' ⟨rfl, rfl⟩
    exact ⟨_, rfl, OwnI.nil _ _, h, Keeps.refl _ _⟩
  · rw [if_neg hs, if_neg hs, if_neg hs]
    obtain ⟨n, rfl⟩ := Int.eq_ofNat_of_zero_le (show 0 ≤ k by omega)
    exact drain_ok h n hk
/-- The same of the document's. -/
def RDrainAny (B r sz : Nat) (L : List Int) (k : Int) (v : Value) (wh : Bool) (w : World) (e : Ending) (w' : World) : Prop :=
  ∃ vo v', e = .returned (.tuple #[vo, .int .i64 (drE k)]) ∧ OwnI w' w.heap.size vo (drT k L) ∧ IsRef w' B r sz v' (drD k L) wh ∧ Keeps [r] w w' ∧ ∀ x, v'.ownBlock = some x → v.ownBlock = some x ∨ w.heap.size ≤ x
theorem rdrain_any (h : IsRef w B r sz v L wh) (k : Int) (hk : k ≤ 9223372036854775807) : Calls Try.prog 22 #[.pointer (some ⟨r, 0, none⟩), .int .i64 k] w (RDrainAny B r sz L k v wh w) := by
  unfold RDrainAny drE drT drD
  by_cases hs : k < 0
  · rw [if_pos hs, if_pos hs, if_pos hs]
    refine (rdrain_neg h k hs).mono ?_
    rintro e w' ⟨rfl, rfl⟩
    exact ⟨_, _, rfl, OwnI.nil _ _, h, Keeps.refl _ _, fun x hx => .inl hx⟩
  · rw [if_neg hs, if_neg hs, if_neg hs]
    obtain ⟨n, rfl⟩ := Int.eq_ofNat_of_zero_le (show 0 ≤ k by omega)
    refine (rdrain_ok h n hk).mono ?_
    rintro e w' ⟨vo, v', rfl, ho, hR, hK, hf⟩
    exact ⟨vo, v', rfl, ho, hR, hK, fun x hx => .inr (hf x hx)⟩

theorem Two.ref1 {w1 : World} (t : Two w B b r sz v L wh) (k : Keeps [b] w w1) : IsRef w1 B r sz v L wh :=
  t.ref.keeps k (by simpa using (Ne.symm t.bNe.1)) (fun x hx => by simpa using t.bNe.2 x hx)
/-- Behind a call of the program's buffer and one of the document's. -/
theorem Two.next {w1 w2 : World} {v' : Value} {L' : List Int} {wh' : Bool} (t : Two w B b r sz v L wh) (hb : IsBuf w1 b sz L' wh') (k1 : Keeps [b] w w1) (hr : IsRef w2 B r sz v' L' wh') (k2 : Keeps (r :: v.ownBlock.toList) w1 w2)
    (hf : ∀ x, v'.ownBlock = some x → v.ownBlock = some x ∨ w1.heap.size ≤ x) :
    Two w2 B b r sz v' L' wh' ∧ Keeps (blocks b r v) w w2 ∧ ∀ x, v'.ownBlock = some x → v.ownBlock = some x ∨ w.heap.size ≤ x := by
  refine ⟨⟨hb.keeps k2 ?_, hr, t.hb, t.hr⟩, (k1.mono (by simp [blocks])).trans (k2.mono (by simp only [blocks]; intro x hx; exact List.mem_cons_of_mem _ hx)), fun x hx => ?_⟩
  · intro hm
    simp only [List.mem_cons, Option.mem_toList] at hm
    rcases hm with h | h
    · exact t.bNe.1 h
    · exact t.bNe.2 b h rfl
  · rcases hf x hx with h | h
    · exact .inl h
    · exact .inr (Nat.le_trans k1.size h)
/-- What was copied: nothing yet, or two buffers that hold the same and lie elsewhere. -/
def Old (w : World) (B b r sz : Nat) (v p q : Value) : Prop :=
  (p = .pointer none ∧ q = .pointer none) ∨ ∃ b' r' v' L' wh', p = .pointer (some ⟨b', 0, none⟩) ∧ q = .pointer (some ⟨r', 0, none⟩) ∧ Two w B b' r' sz v' L' wh' ∧ ∀ x ∈ blocks b' r' v', x ∉ blocks b r v
theorem Two.step {w2 : World} {b' r' : Nat} {v' v2 : Value} {L' : List Int} {wh' : Bool} (t : Two w B b' r' sz v' L' wh') (hd : ∀ x ∈ blocks b' r' v', x ∉ blocks b r v) (k : Keeps (blocks b r v) w w2) (hf : ∀ x, v2.ownBlock = some x → v.ownBlock = some x ∨ w.heap.size ≤ x) :
    Two w2 B b' r' sz v' L' wh' ∧ ∀ x ∈ blocks b' r' v', x ∉ blocks b r v2 := by
  refine ⟨t.keeps k hd, fun x hx hm => ?_⟩
  have h1 := hd x hx
  have h2 := (t.lt x hx).2
  simp only [blocks, List.mem_cons, Option.mem_toList] at hm h1
  rcases hm with h | h | h
  · exact h1 (.inl h)
  · exact h1 (.inr (.inl h))
  · rcases hf x h with h | h
    · exact h1 (.inr (.inr h))
    · omega
theorem Two.into {w2 : World} (t : Two w B b r sz v L wh) (k : Keeps [] w w2) : Two w2 B b r sz v L wh := t.keeps k (by simp)
theorem Two.keep {w0 w2 : World} (t : Two w B b r sz v L wh) (hK : Keeps [] w0 w) (hB : w0.heap.size ≤ B) (k : Keeps (blocks b r v) w w2) : Keeps [] w0 w2 :=
  hK.step k (fun x hx => .inr (Nat.le_trans hB (t.lt x hx).1))
end
end Go.Proofs.Ytmojlfkjbnokcaa
