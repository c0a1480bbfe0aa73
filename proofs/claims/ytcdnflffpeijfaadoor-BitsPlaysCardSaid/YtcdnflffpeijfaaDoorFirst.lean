/- A range over a function whose body returns in its first round, the iterator storing into a box of the caller's ahead of it. Condition: the rounds' body stores into the caller's own blocks alone. -/
import Derived.Test.YtcdnflffpeijfaaDoorAll
namespace Go.Proofs.YtcdnflffpeijfaaDoor
open Go.RowKit Go.Shelf

/-- The contract of an iterator that first stores v into a block B of the caller's, then yields. -/
def SeqFirst {α : Type} (F : Fence) (n : Nat) (P : Program) (g : Nat) (lb : Array Value) (encs : α → Array Value) (Kp : World → World → Prop) (S Sp : List α → Prop) (N : Nat) (w : World) (p : Addr) (v : Value) : Prop :=
  ∀ (l : Nat) (J Jx : List α → World → Prop) (W : World), Below w.heap.size w W → (∀ pre W k, J pre W → J pre (World.drewN W k)) →
    (∀ pre x W1, J pre W1 → pre.length < N → YieldAt F (n - 1) P l (encs x) W1 fun e W' =>
      (e = .returned (.bool true) ∧ J (pre ++ [x]) W' ∧ Kp W1 W') ∨ (e = .returned (.bool false) ∧ Jx (pre ++ [x]) W')) →
    J [] (W.setCell p v) →
    CallsIn F n P g (#[.func (.yield l) #[] #[]] ++ lb) W fun e W' => (∃ v, e = .returned v) ∧ ((∃ xs, S xs ∧ J xs W') ∨ (∃ pre, Sp pre ∧ Jx pre W'))

theorem numbers_first (n : Nat) (hn : 1 ≤ n) (b gb Bs Bf n₀ sz : Nat) (fr : Int) (f : Nat) (hf : max fr 0 = (f : Int)) (S : List Nat) (ws : List Nat) (w : World)
    (hb : b < n₀) (hgb : gb < n₀) (hBs : Bs < n₀) (hBf : Bf < n₀) (hbS : b ∉ S) (hgS : gb ∉ S) (hsS : Bs ∉ S) (hfS : Bf ∉ S) (h0S : 0 ∉ S) (hf63 : (f : Int) ≤ 9223372036854775807)
    (cs : Blk w Bs 24 #[.pointer (some ⟨b, 0, none⟩)]) (cf : Blk w Bf 3 #[.int .i64 fr]) (hB : IsSet w b gb sz ws) (hT : Table w) (hBs0 : Bs ≠ Bf) (hBb0 : b ≠ Bf) (hBg0 : gb ≠ Bf) (hB00 : 0 ≠ Bf) :
    SeqFirst Fence.wide n Tryd.prog 52 #[.pointer (some ⟨Bs, 0, none⟩), .pointer (some ⟨Bf, 0, none⟩)] (fun x : Nat => #[Value.int .i64 (x : Int)]) (Keepn n₀ S) (fun ys => ys = numsFrom ws f) (fun pre => pre <+: numsFrom ws f) sz w ⟨Bf, 0, none⟩ (.int .i64 f) := fun l J Jx W hW hJ hY h0 => by
  have hk : Keeps [] w W := Keeps.of_below hW
  have hT' : Table W := hT.keeps hk (by have := cs.lt; omega) (by simp)
  exact numbers1_in n hn l b gb Bs Bf n₀ sz fr f hf S ws J Jx hJ hY hb hgb hBs hBf hbS hgS hsS hfS h0S hf63 W (cs.below hW cs.lt) (cf.below hW cf.lt)
    (hB.keeps hk (by simp) (by simp)) hT' hBs0 hBb0 hBg0 hB00 h0

theorem Keeps.both {w w' : World} (h : Keeps [] w w') (p : Addr) (v : Value) : Keeps [] (w.setCell p v) (w'.setCell p v) := by
  refine ⟨h.os, h.tape, h.output, by simpa using h.size, fun i hi _ => ?_⟩
  have hi' : i < w.heap.size := by simpa using hi
  have := h.block i hi' (by simp)
  by_cases e : i = p.block
  · subst e
    show (w'.heap.modify _ _)[p.block]? = (w.heap.modify _ _)[p.block]?
    rw [Array.getElem?_modify, Array.getElem?_modify, this]
  · rw [Below.heap_setCell _ _ _ _ e, Below.heap_setCell _ _ _ _ e]
    exact this
/-- The law: a body that returns in its first round. Kept: the worlds that the rounds begin in are the caller's behind the store, but for new blocks. -/
theorem wpIn_range_first {F : Fence} {n : Nat} {P : Program} {α : Type} {g : Operand} {ps : Array Tmp} {assign body : Code} {Q : Exit → Act → World → Prop} {a : Act} {w : World}
    (hro : F.round = none) (h1 : 1 ≤ n) {gf : Nat} {lb : Array Value} (hg : a.eval g = .func (.func gf) #[] lb) (hFg : F.fn gf) (eg : ∀ args w, (callFunc gf args).run P w = .ok (.enter gf args) w)
    {encs : α → Array Value} {Kp : World → World → Prop} {S Sp : List α → Prop} {N : Nat} {p : Addr} {v : Value} (hseq : SeqFirst F (n - 1) P gf lb encs Kp S Sp N w p v) (hp : p.block < w.heap.size) (hps : ∀ x, (encs x).size = ps.size)
    (Ix : α → World → Prop) (hIx : ∀ x W l o o', w.heap.size ≤ l → W.heap[l]? = some o → o.isCells = false → Ix x W → Ix x (W.putObj l o')) (a₁ : α → Act)
    (hassign : ∀ (l : Nat) (x : α) (W : World) (K : Act → World → Prop), K (a₁ x) W →
      assign.wpIn (F.inRound l) (n - 1 - 1) P (Exit.then K (fun _ _ _ => False)) { tmps := (ps.zip (encs x)).foldl (fun t (p, v) => t.setIfInBounds p v) a.tmps, defers := [] } W)
    (hbody : ∀ (l : Nat) (x : α) (W : World), Keeps [] (w.setCell p v) W → body.wpIn (F.inRound l) (n - 1 - 1) P (fun e _ W' => e = .ret ∧ KeepsFrom w.heap.size W W' ∧ Ix x W') (a₁ x) W)
    (hdone : ∀ (D : Nat) (W : World), w.heap.size ≤ D → S [] → Keeps [] (w.setCell p v) W → W.heap[D]? = some (.deferred (some [])) → Q .normal { a with defers := { target := .collected D, args := #[] } :: a.defers } W)
    (hstop : ∀ (D : Nat) (x : α) (W : World), w.heap.size ≤ D → Sp [x] → Ix x W → W.heap[D]? = some (.deferred (some [])) → Code.ret.wpIn F n P Q { a with defers := { target := .collected D, args := #[] } :: a.defers } W) :
    (Code.rangeFunc g ps assign body).wpIn F n P Q a w := by
  refine wpIn_rangeFunc ?_
  intro fn hfn
  rw [hro]
  obtain ⟨rec, hrec⟩ : ∃ rec : LoopState → Option Code → Loop, rec = fun st pe => { state := st, pending := pe, fn, tmps := a.tmps, params := ps, assign, body, defers := w.heap.size } := ⟨_, rfl⟩
  obtain ⟨W1, hW1⟩ : ∃ W1, (w.alloc (.deferred (some []))).alloc (.loop (rec .ready none)) = W1 := ⟨_, rfl⟩
  have hL1 : W1.heap[w.heap.size + 1]? = some (.loop (rec .ready none)) := by
    rw [← hW1]; have := World.alloc_heap_new (w.alloc (.deferred (some []))) (.loop (rec .ready none)); rwa [World.size_alloc] at this
  have hD1 : W1.heap[w.heap.size]? = some (.deferred (some [])) := by
    rw [← hW1]; exact (Below.heap_alloc _ _ _ (by simp)).trans (World.alloc_heap_new w _)
  have hK1 : Keeps [] w W1 := by rw [← hW1]; exact ((Keeps.refl [] w).alloc _).alloc _
  have hK2 : Keeps [] (w.setCell p v) (W1.setCell p v) := Keeps.both hK1 p v
  have hL2 : (W1.setCell p v).heap[w.heap.size + 1]? = some (.loop (rec .ready none)) := (Below.heap_setCell _ _ _ _ (by omega)).trans hL1
  have hD2 : (W1.setCell p v).heap[w.heap.size]? = some (.deferred (some [])) := (Below.heap_setCell _ _ _ _ (by omega)).trans hD1
  have hsz : (w.setCell p v).heap.size = w.heap.size := by simp
  refine ⟨w.heap.size + 1, [{ target := .collected w.heap.size, args := #[] }], W1, { target := .fn (.func gf) lb, args := #[.func (.yield (w.heap.size + 1)) #[] #[]] }, W1, gf,
    #[.func (.yield (w.heap.size + 1)) #[] #[]] ++ lb, W1, ?_, ?_, ?_, ?_, fun _ => h1, ?_⟩
  · rw [← hW1, hrec]; exact run_enterLoop_outer _ _ _ _ _
  · simp only [resolve, hg]
    simp [go_sem]
  · intro f' hf'; simp [Target.leads] at hf'; subst hf'; exact hFg
  · simp [invoke, go_sem, eg]
  · refine (hseq (w.heap.size + 1)
      (fun pre W => pre = [] ∧ Keeps [] (w.setCell p v) W ∧ W.heap[w.heap.size + 1]? = some (.loop (rec .ready none)) ∧ W.heap[w.heap.size]? = some (.deferred (some [])))
      (fun pre W => ∃ x, pre = [x] ∧ Ix x W ∧ W.heap[w.heap.size + 1]? = some (.loop (rec .done (some .ret))) ∧ W.heap[w.heap.size]? = some (.deferred (some [])))
      W1 hK1.below (fun pre W k h => ⟨h.1, h.2.1.drewN k, h.2.2⟩) ?_ ⟨rfl, hK2, hL2, hD2⟩).mono ?_
    · rintro pre x W ⟨rfl, hi, hl, hk⟩ _
      have hlt : w.heap.size + 1 < W.heap.size := (Array.getElem?_eq_some_iff.1 hl).1
      have hy := run_yield (P := P) (args := encs x) hl (by rw [hrec]; exact hps x)
      rw [hrec] at hy
      refine ⟨fn, _, assign, body, hy, roundIn_of_wpIn hfn (hassign _ x W _ ⟨_, run_beginRound hl (by rw [hrec]), ?_⟩)⟩
      have hl2 : (W.putObj (w.heap.size + 1) (.loop { rec .ready none with state := .busy })).heap[w.heap.size + 1]? = some (.loop { rec .ready none with state := .busy }) := World.putObj_heap_same hlt
      have hk2 : (W.putObj (w.heap.size + 1) (.loop { rec .ready none with state := .busy })).heap[w.heap.size]? = some (.deferred (some [])) := (World.putObj_heap_other (by omega)).trans hk
      refine wpIn_mono (hbody _ x _ (hi.grown (grownBy_putObj' W _ _) (fun k e => by cases e; exact .inr (by omega)))) ?_
      rintro e a3 W3 ⟨rfl, hk3, hi3⟩
      have hl3 := hk3.same _ _ (by omega) hl2 rfl
      have hd3 := hk3.same _ _ (Nat.le_refl _) hk2 rfl
      have hr := run_endRound (P := P) (some Code.ret) hl3
      rw [hrec] at hr
      have hlt3 := (Array.getElem?_eq_some_iff.1 hl3).1
      refine ⟨_, _, hr, .inr ⟨rfl, x, rfl, hIx _ _ _ _ _ (by omega) hl3 rfl hi3, ?_, ?_⟩⟩
      · rw [World.putObj_heap_same hlt3, hrec]; rfl
      · exact (World.putObj_heap_other (by omega)).trans hd3
    · rintro e W2 ⟨⟨u, rfl⟩, (⟨xs, hS, rfl, hi, hl, hk⟩ | ⟨pre, hSp, x, rfl, hi, hl, hk⟩)⟩
      · exact ⟨none, _, by have := run_endLoop (P := P) hl (by rw [hrec]; simp); rw [hrec] at this; exact this, hdone _ _ (Nat.le_refl _) hS (hi.grown (grownBy_putObj' W2 _ _) (fun k e => by cases e; exact .inr (by omega))) ((World.putObj_heap_other (by omega)).trans hk)⟩
      · exact ⟨some .ret, _, by have := run_endLoop (P := P) hl (by rw [hrec]; simp); rw [hrec] at this; exact this, hstop _ x _ (Nat.le_refl _) hSp (hIx _ _ _ _ _ (by omega) hl rfl hi) ((World.putObj_heap_other (by omega)).trans hk)⟩
end Go.Proofs.YtcdnflffpeijfaaDoor
