/- The document's buffer: Note, Drain, Copy. No condition. -/
import Derived.Test.YtmojlfkjbnokcaaRbuf
import Derived.Test.YtmojlfkjbnokcaaStep
namespace Go.Proofs.Ytmojlfkjbnokcaa
open Go.RowKit

/-- Behind a call: the results; block r is the document's buffer as said; nothing else has changed but the row that it had. -/
def RefPost (res : Value) (B r sz : Nat) (v : Value) (L : List Int) (wh : Bool) (w : World) (e : Ending) (w' : World) : Prop :=
  e = .returned res ∧ ∃ v', IsRef w' B r sz v' L wh ∧ Keeps (r :: v.ownBlock.toList) w w' ∧ ∀ x, v'.ownBlock = some x → v.ownBlock = some x ∨ w.heap.size ≤ x

section
variable {w w' : World} {B r sz : Nat} {v : Value} {L : List Int} {wh : Bool} {S : List Nat}
theorem own_ne {r : Nat} {cs : Array Value} {B : Nat} {v : Value} {xs : List Int} (h : OwnI w B v xs) (hb : Blk w r 68 cs) : ∀ x, v.ownBlock = some x → x ≠ r := by
  intro x hx e
  subst e
  rcases h.form with ⟨rfl, _⟩ | ⟨g, cap, cur, rfl, _, hb', _⟩
  · cases hx
  · cases hx
    exact absurd rfl (hb'.ne hb (by decide))
theorem IsRef.ne (h : IsRef w B r sz v L wh) : ∀ x, v.ownBlock = some x → x ≠ r := own_ne h.own h.blk
theorem IsRef.notIn (h : IsRef w B r sz v L wh) : r ∉ v.ownBlock.toList := fun hm => h.ne r (by simpa using hm) rfl
/-- A new slice is stored. -/
theorem ref_store {w w3 : World} {B r sz : Nat} {v v3 : Value} {L3 : List Int} {wh : Bool} {S : List Nat} (hb : Blk w3 r 68 #[.int .i64 sz, v, .bool (!wh)]) (ho : OwnI w3 B v3 L3) (hl : L3.length ≤ 64) (hB : B ≤ w3.heap.size) (hk : Keeps S w w3) (hr : r ∈ S) :
    IsRef (w3.setCell ⟨r, 1, none⟩ v3) B r sz v3 L3 wh ∧ Keeps S w (w3.setCell ⟨r, 1, none⟩ v3) := by
  have k1 : Keeps [r] w3 (w3.setCell ⟨r, 1, none⟩ v3) := (Keeps.refl _ w3).setCell (.inl (by simp)) _
  exact ⟨⟨hb.put 1 v3, ho.keeps k1 (fun x hx => by simpa using own_ne ho hb x hx), hl, Nat.le_trans hB k1.size⟩, hk.setCell (.inl hr) _⟩
theorem rnote_range (h : IsRef w B r sz v L wh) (s : Int) (hs : s < 0 ∨ 256 ≤ s) : Calls Try.prog 21 #[.pointer (some ⟨r, 0, none⟩), .int .i64 s] w (RefPost (.tuple #[.bool false, .int .i64 3]) B r sz v L wh w) := by
  have H := Lib.hid h
  clear h
  rcases hs with hs | hs
  all_goals
    go_enter Try.func21, Try.ntmps21
    go_wp2_with fail
    go_ret2
    exact ⟨rfl, v, H.out, Keeps.refl _ _, fun x hx => .inl hx⟩
theorem rnote_full (h : IsRef w B r sz v L wh) (s : Int) (s0 : 0 ≤ s) (s1 : s < 256) (hl : L.length = sz) : Calls Try.prog 21 #[.pointer (some ⟨r, 0, none⟩), .int .i64 s] w (RefPost (.tuple #[.bool false, .int .i64 0]) B r sz v L false w) := by
  have c0 := h.size
  have c1 := h.list
  have c2 := h.full
  have f2 := h.blk.frozen 2
  have HNE := Lib.hid h.ne
  have H := Lib.hid h
  have hsh := h.own.shape
  rw [hl] at hsh
  obtain ⟨a, cap, rfl⟩ := hsh
  clear h
  go_enter Try.func21, Try.ntmps21
  go_wp2_with fail
  go_quiet (fail)
  go_wp2_with fail
  go_ret2
  have hk : Keeps (r :: (Value.slice a sz cap).ownBlock.toList) w ((w.drewN nq).setCell ⟨r, 2, none⟩ (.bool true)) := ((Keeps.refl _ w).drewN _).setCell (.inl (by simp)) _
  have hk1 : Keeps [r] w ((w.drewN nq).setCell ⟨r, 2, none⟩ (.bool true)) := ((Keeps.refl _ w).drewN _).setCell (.inl (by simp)) _
  exact ⟨rfl, _, ⟨(H.out.blk.drewN nq).put 2 (.bool true), H.out.own.keeps hk1 (fun x hx => by simpa using HNE.out x hx), H.out.le, Nat.le_trans H.out.base hk1.size⟩, hk, fun x hx => .inl hx⟩
theorem rnote_ok (h : IsRef w B r sz v L wh) (s : Int) (s0 : 0 ≤ s) (s1 : s < 256) (hl : L.length < sz) (h64 : sz ≤ 64) : Calls Try.prog 21 #[.pointer (some ⟨r, 0, none⟩), .int .i64 s] w (RefPost (.tuple #[.bool true, .int .i64 0]) B r sz v (L ++ [s]) wh w) := by
  have c0 := h.size
  have c1 := h.list
  have f1 := h.blk.frozen 1
  have HNE := Lib.hid h.ne
  have H := Lib.hid h
  have hB := h.base
  have hown := h.own
  obtain ⟨a, cap, rfl⟩ := h.own.shape
  have d1 : ((L.length : Int) == sz) = false := beq_eq_false_iff_ne.2 (by omega)
  clear h
  go_enter Try.func21, Try.ntmps21
  go_wp2_with fail
  go_quiet (fail)
  go_wp2_with (at_builtin; refine wpList_append_sl rfl (.tmp 29) (.tmp 31) 26 rfl B Try.underlying26 Try.info3 rfl rfl ((hown.drewN _).alloc _) (SlI.lit (xs := [s]) (Blk.new _ 3 #[.int .i64 s]) rfl (by unfold maxLen; simp)) (by simp; omega) (by simp; omega) ?_; intro v3 w3 hown3 hg3 hat3; have b3 := ((H.out.blk.drewN _).alloc _).keeps (Keeps.of_grown hg3) H.out.notIn; have c13 := b3.cellAt 1 _ rfl; have f13 := b3.frozen 1; have hsh := hown3.shape; rw [List.length_append, List.length_singleton] at hsh; obtain ⟨a4, c4, rfl⟩ := hsh)
  go_ret2
  obtain ⟨hR, hK⟩ := ref_store (S := r :: (Value.slice a L.length cap).ownBlock.toList) b3 hown3 (by simp; omega) (Nat.le_trans hB (by have := hg3.size; simp at this; omega)) ((((Keeps.refl _ w).drewN nq).alloc (.cells #[.int .i64 s] 3)).trans ((Keeps.of_grown hg3).mono (fun x hx => List.mem_cons_of_mem _ hx))) (by simp)
  refine ⟨rfl, _, hR, hK, fun x hx => ?_⟩
  rcases hat3 with e | e
  · exact .inl (e ▸ hx)
  · right
    rw [e] at hx
    cases hx
    simp
end
end Go.Proofs.Ytmojlfkjbnokcaa
