/- The contract of numbers: the iterator with its two boxes. No condition. -/
import Derived.Test.YtcdnflffpeijfaaDoorIter
namespace Go.Proofs.YtcdnflffpeijfaaDoor
open Go.RowKit Go.Shelf

attribute [local go_sem] Oper.semAt_some

set_option maxRecDepth 100000 in
set_option maxHeartbeats 1000000 in
theorem numbers_in (p : Option Addr) (fr : Int) (w : World) :
    Calls Tryd.prog 35 #[.pointer p, .int .i64 fr] w fun e w' => e = .returned (.func (.func 52) #[] #[.pointer (some ⟨w.heap.size, 0, none⟩), .pointer (some ⟨w.heap.size + 1, 0, none⟩)]) ∧
      (w.alloc (.cells #[.pointer p] 24)).alloc (.cells #[.int .i64 fr] 3) = w' := by
  go_enter Tryd.func35, Tryd.ntmps35
  go_wp2
  go_ret
  exact ⟨rfl, rfl⟩

/-- A store of what a cell holds changes nothing. -/
theorem setCell_same {w : World} {g : Nat} {t : TypeId} {cs : Array Value} (h : Blk w g t cs) (i : Nat) (v : Value) (hv : cs[i]? = some v) : w.setCell ⟨g, i, none⟩ v = w := by
  have h1 := h.put i v
  have e : cs.setIfInBounds i v = cs := by
    apply Array.ext
    · simp
    · intro j h1 h2
      rw [Array.getElem_setIfInBounds]
      split
      · rename_i hij
        subst hij
        rw [Array.getElem?_eq_getElem h2] at hv
        cases hv
        rfl
      · rfl
  rw [e] at h1
  have hh : (w.setCell ⟨g, i, none⟩ v).heap = w.heap := by
    apply Array.ext_getElem?
    intro j
    by_cases hj : j = g
    · subst hj
      unfold Blk at h h1
      rw [h1, h]
    · exact Below.heap_setCell w _ v j hj
  show { w with heap := (w.setCell ⟨g, i, none⟩ v).heap } = w
  rw [hh]

/-- The iterator of a set's numbers, where the number that it begins at is not negative. -/
theorem numbers_stops (n : Nat) (hn : 1 ≤ n) (b gb Bs Bf n₀ sz f : Nat) (S : List Nat) (ws : List Nat) (w : World)
    (hb : b < n₀) (hgb : gb < n₀) (hBs : Bs < n₀) (hBf : Bf < n₀) (hbS : b ∉ S) (hgS : gb ∉ S) (hsS : Bs ∉ S) (hfS : Bf ∉ S) (h0S : 0 ∉ S) (hf63 : (f : Int) ≤ 9223372036854775807)
    (cs : Blk w Bs 24 #[.pointer (some ⟨b, 0, none⟩)]) (cf : Blk w Bf 3 #[.int .i64 f]) (hB : IsSet w b gb sz ws) (hT : Table w) (hBs0 : Bs ≠ Bf) (hBb0 : b ≠ Bf) (hBg0 : gb ≠ Bf) (hB00 : 0 ≠ Bf) :
    SeqStopsK Fence.wide n Tryd.prog 52 #[.pointer (some ⟨Bs, 0, none⟩), .pointer (some ⟨Bf, 0, none⟩)] (fun x : Nat => #[Value.int .i64 (x : Int)]) (Keepn n₀ S) (fun ys => ys = numsFrom ws f) (fun pre => pre <+: numsFrom ws f) sz w := fun l J Jx W hW hJ _ hY h0 => by
  have hk : Keeps [] w W := Keeps.of_below hW
  have cf' := cf.below hW cf.lt
  have hT' : Table W := hT.keeps hk (by have := cs.lt; omega) (by simp)
  exact numbers1_in n hn l b gb Bs Bf n₀ sz f f (by omega) S ws J Jx (fun pre W' k h => hJ pre W' _ none h ⟨rfl, rfl, rfl, Nat.le_refl _, fun _ _ _ => rfl⟩ (fun r e => by cases e)) hY hb hgb hBs hBf hbS hgS hsS hfS h0S hf63 W (cs.below hW cs.lt) cf'
    (hB.keeps hk (by simp) (by simp)) hT' hBs0 hBb0 hBg0 hB00 (by rw [setCell_same cf' 0 (.int .i64 f) rfl]; exact h0)
end Go.Proofs.YtcdnflffpeijfaaDoor
