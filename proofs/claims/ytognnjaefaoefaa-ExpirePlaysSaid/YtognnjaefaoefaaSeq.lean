/- Plain lemmas for ranges over functions: what a round of a loop keeps ('Keepn': below block n, all blocks but those of the list S). No condition. -/
import Derived.Test.YtognnjaefaoefaaKit
import Derived.RangeFuncBox
import Derived.RangeFuncNested
import Derived.RangeFuncBound
import Derived.RangeFuncCalls
import Derived.RangeFuncLeaves
import Derived.Shelf.Abstract
import Derived.Shelf.RegionOpen
import Derived.OwnWalkIn
import Derived.TacticsInMore
import Derived.LoopNIn
import Derived.LoopIn
import Derived.Maps.OwnIn
import Derived.BigRegionIn
import Derived.Stop.RegionWithIn
namespace Go.Proofs.Ytognnjaefaoefaa
open Go.RowKit Go.Shelf

/-- Below block number n all blocks but those of the list S are as they were. -/
structure Keepn (n : Nat) (S : List Nat) (w w' : World) : Prop where
  size : w.heap.size ≤ w'.heap.size
  block : ∀ k, k < n → k ∉ S → w'.heap[k]? = w.heap[k]?

section
variable {n : Nat} {S : List Nat} {a b c w w' : World}
theorem Keepn.refl (n : Nat) (S : List Nat) (w : World) : Keepn n S w w := ⟨Nat.le_refl _, fun _ _ _ => rfl⟩
theorem Keepn.trans (h : Keepn n S a b) (k : Keepn n S b c) : Keepn n S a c := ⟨Nat.le_trans h.size k.size, fun i hi hn => (k.block i hi hn).trans (h.block i hi hn)⟩
theorem Keepn.turn {w : World} (hn : n ≤ w.heap.size) (W : World) (l : Nat) (o o' : Obj) (hl : w.heap.size ≤ l) (h : W.heap[l]? = some o) (_ : o.isCells = false) (_ : o.isWalk = false) : Keepn n S W (W.putObj l o') :=
  ⟨(grownBy_putObj' W l o').size, fun k hk _ => (grownBy_putObj' W l o').block k (by have := (Array.getElem?_eq_some_iff.1 h).1; omega) (fun e => by cases e; omega)⟩
theorem Keepn.of_keeps {T : List Nat} (h : Keeps T a b) (hn : n ≤ a.heap.size) (hs : ∀ x, x ∈ T → x ∈ S ∨ n ≤ x) : Keepn n S a b :=
  ⟨h.size, fun k hk hx => h.block k (by omega) (fun hT => by rcases hs k hT with h1 | h1; exact hx h1; omega)⟩
theorem Blk.keepn {g : Nat} {t : TypeId} {cs : Array Value} (h : Blk w g t cs) (k : Keepn n S w w') (hg : g < n) (hs : g ∉ S) : Blk w' g t cs := (k.block g hg hs).trans h
theorem Keepn.drew (h : Keepn n S a w) : Keepn n S a w.drew := ⟨h.size, h.block⟩
theorem Keepn.drewN (h : Keepn n S a w) (k : Nat) : Keepn n S a (w.drewN k) := ⟨h.size, h.block⟩
theorem Keepn.of_below (h : Below n a b) : Keepn n S a b := ⟨h.size, fun k hk _ => h.block k hk⟩
end

/-- Of the caller's own words on a world: 'only the blocks of S have changed since w' abides the turn of a block beyond. -/
theorem ownFrom_keeps {β : Type} {B : Nat} {S : List Nat} {w : World} (hB : w.heap.size ≤ B) : OwnFrom B (fun (_ : β) W => Keeps S w W) :=
  fun _ _ _ _ hs hg hr => hs.grown hg (fun k e => .inr (Nat.le_trans hB (hr k e).1))
theorem Blk.own {β : Type} {g : Nat} {t : TypeId} {cs : Array Value} : Own (fun (_ : β) W => Blk W g t cs) :=
  fun _ _ _ _ hs hg hr => (hg.block g (Blk.lt hs) (fun e => by
    obtain ⟨o, ho, hc⟩ := hr g e.symm
    unfold Blk at hs
    rw [hs] at ho
    cases ho
    cases hc)).trans hs
theorem putObj_keeps {S : List Nat} {a w : World} (h : Keeps S a w) {l : Nat} (hl : a.heap.size ≤ l) (o' : Obj) : Keeps S a (w.putObj l o') := h.grown (grownBy_putObj' w l o') (fun k e => by cases e; exact .inr hl)
theorem Blk.putObj {w : World} {g : Nat} {t : TypeId} {cs : Array Value} (h : Blk w g t cs) {l : Nat} {o : Obj} (o' : Obj) (hl : w.heap[l]? = some o) (ho : o.isCells = false) : Blk (w.putObj l o') g t cs := by
  refine ((grownBy_putObj' w l o').block g h.lt (fun e => ?_)).trans h
  cases e
  unfold Blk at h
  rw [h] at hl
  cases hl
  cases ho

/-- What a round says: true, and it goes on (A); false, and it has said 'no more' (B). In ONE form, so that a walk behind it has one way. -/
def Said (A B : World → Prop) (t : Bool) (w : World) : Prop := (t = true → A w) ∧ (t = false → B w)
theorem said_of {A B : World → Prop} {e : Ending} {w : World} (h : (e = .returned (.bool true) ∧ A w) ∨ (e = .returned (.bool false) ∧ B w)) : ∃ t : Bool, e = .returned (.bool t) ∧ Said A B t w := by
  rcases h with ⟨rfl, h⟩ | ⟨rfl, h⟩
  · exact ⟨true, rfl, fun _ => h, fun e => by cases e⟩
  · exact ⟨false, rfl, (fun e => by cases e), fun _ => h⟩

/-- 'out = append(out, ..)' into a box: what the walk owes behind the append and the store, the row being from block 'base' on. -/
theorem boxed_append {W w1 : World} {B base : Nat} {t e : TypeId} {size : Nat} {v v' : Value} {k m : Nat} {xs ys : List Value} {tmp : Obj}
    (hv : Boxed W B t v) (hte : t ≠ e) (hrow : W.ownsRow base e size v k xs) (hown' : w1.ownsRow base e size v' m ys) (hgrow : (W.alloc tmp).grownBy w1 v.ownBlock) :
    Boxed w1 B t v ∧ Boxed (w1.setCell ⟨B, 0, none⟩ v') B t v' ∧ (w1.setCell ⟨B, 0, none⟩ v').ownsRow base e size v' m ys ∧ KeepsOthers W (w1.setCell ⟨B, 0, none⟩ v') ∧
      (∀ (S : List Nat) (W0 : World), Keeps S W0 W → (B ∈ S ∨ W0.heap.size ≤ B) → W0.heap.size ≤ base → Keeps S W0 (w1.setCell ⟨B, 0, none⟩ v')) ∧
      ∀ (n : Nat) (S : List Nat), B ∈ S → n ≤ base → n ≤ W.heap.size → Keepn n S W (w1.setCell ⟨B, 0, none⟩ v') := by
  have hb : ∀ {w : World} {n : Nat} {u : Value} {zs : List Value}, w.ownsRow base e size u n zs → w.ownsRow 0 e size u n zs := by
    rintro w n u zs ⟨h1, h2⟩
    refine ⟨h1, ?_⟩
    rcases h2 with h2 | ⟨g, cap, cur, h3, _, hr⟩
    · exact .inl h2
    · exact .inr ⟨g, cap, cur, h3, Nat.zero_le _, hr⟩
  obtain ⟨h1, h2, _, h4, _⟩ := hv.appended hte (hb hrow) (Nat.zero_le _) (Nat.zero_le _) (hb hown') hgrow
  refine ⟨h1, h2, hown'.kept (grownBy_setCell' w1 B v') (.inr (h1.not_row hte hown').symm), h4, fun S W0 hk hB hbase => ?_, fun n S hB hn hW => ?_⟩
  · refine ((hk.alloc tmp).grown hgrow (fun j e => .inr ?_)).setCell (p := ⟨B, 0, none⟩) hB v'
    have := (World.ownsRow.lt hrow j e).1
    omega
  · refine ⟨Nat.le_trans (by simp) (Nat.le_trans hgrow.size (grownBy_setCell' w1 B v').size), fun k hk hS => ?_⟩
    rw [Below.heap_setCell _ _ _ _ (fun e => hS (by rw [e]; exact hB)), hgrow.block k (by simp; omega) (fun e => by have := (World.ownsRow.lt hrow k e.symm).1; omega)]
    exact Below.heap_alloc _ _ _ (by omega)
end Go.Proofs.Ytognnjaefaoefaa
