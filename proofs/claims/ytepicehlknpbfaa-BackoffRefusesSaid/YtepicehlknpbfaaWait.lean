/- The contracts of Wait, Steps, All, Sum and Next. No condition: allowed numbers, and the others. -/
import Derived.Test.YtepicehlknpbfaaFind2
namespace Go.Proofs.Ytepicehlknpbfaa
open Go.RowKit Go.Shelf

theorem Try.info2 : (Try.prog.info? 2).map (fun i => (i.zero, i.size, i.bytes)) = some (some (.int .i64 0), 1, 8) := by kernel_rfl

theorem wait1_in (k u m : Int) (X : Nat) (W : World) (hb : W.cell? ⟨X, 0, none⟩ = some (.int .i64 m)) :
    Calls Try.prog 28 #[.int .i64 k, .int .i64 u, .pointer (some ⟨X, 0, none⟩)] W fun e w' => e = .returned (.bool (k == m)) ∧ W = w' := by
  go_enter Try.func28, Try.ntmps28
  go_wp2
  go_ret
  exact ⟨rfl, rfl⟩
theorem steps1_in (k u m : Int) (X : Nat) (W : World) (hb : W.cell? ⟨X, 0, none⟩ = some (.int .i64 m)) :
    Calls Try.prog 30 #[.int .i64 k, .int .i64 u, .pointer (some ⟨X, 0, none⟩)] W fun e w' => e = .returned (.bool (u == m)) ∧ W = w' := by
  go_enter Try.func30, Try.ntmps30
  go_wp2
  go_ret
  exact ⟨rfl, rfl⟩

/-- A number and an error; nothing that was there has changed. -/
def NumPost (n er : Int) (w : World) (e : Ending) (w' : World) : Prop := e = .returned (.tuple #[.int .i64 n, .int .i64 er]) ∧ Keeps [] w w'

/-- find with a question that looks into one box and changes nothing. -/
theorem find_quiet (gf : Nat) (eg : ∀ args w, (callFunc gf args).run Try.prog w = .ok (.enter gf args) w) (b c m : Nat) (hb1 : 1 ≤ b) (hbc : b ≤ c) (hc : c ≤ 1048576) (hm1 : 1 ≤ m) (hm : m ≤ 64)
    (stop : Nat × Nat → Bool) (hst : stop (m, wj b c (m - 1)) = true) (hno : ∀ k, 1 ≤ k → k < m → stop (k, wj b c (k - 1)) = false)
    (X : Nat) (t : TypeId) (v : Value) (w : World) (hX : Blk w X t #[v])
    (his : ∀ (x : Nat × Nat) W, Blk W X t #[v] → Calls Try.prog gf #[.int .i64 x.1, .int .i64 x.2, .pointer (some ⟨X, 0, none⟩)] W fun e W' => e = .returned (.bool (stop x)) ∧ W = W') :
    Calls Try.prog 27 #[.int .i64 b, .int .i64 c, .func (.func gf) #[] #[.pointer (some ⟨X, 0, none⟩)]] w (NumPost m (wj b c (m - 1)) w) := by
  refine (find_any gf #[.pointer (some ⟨X, 0, none⟩)] eg b c m hb1 hbc hc hm1 hm stop hst hno [] w (by simp) (fun _ W => Blk W X t #[v] ∧ Keeps [] w W) ?_ ?_ ⟨hX, Keeps.refl _ _⟩ ?_).mono ?_
  · exact OwnFrom.and (Own.from Blk.own _) (ownFrom_keeps (Nat.le_refl _))
  · rintro pre W p u ⟨h1, h2⟩ h3 h4
    exact ⟨h1.far (by have := hX.lt; omega) u, h2.setCell (.inr h3) u⟩
  · rintro pre x W ⟨h1, h2⟩ _ _
    refine (his x W h1).mono ?_
    rintro e W' ⟨rfl, rfl⟩
    exact ⟨rfl, ⟨h1, h2⟩, KeepsOthers.refl _, Keepn.refl _ _ _⟩
  · rintro e w' ⟨rfl, _, h2⟩
    exact ⟨rfl, h2⟩

set_option maxHeartbeats 1000000 in
theorem Wait_ok {m b c : Nat} (h : FineT m b c) (w : World) : Calls Try.prog 11 #[.int .i64 m, .int .i64 b, .int .i64 c] w (NumPost (wj b c (m - 1)) 0 w) := by
  obtain ⟨h1, h2, h3, h4, h5⟩ := id h
  have bX := Blk.new w 3 #[.int .i64 m]
  have HF := Lib.hid (find_quiet 28 (enters_of Try.func28 (by kernel_rfl) rfl) b c m (by omega) (by omega) (by omega) (by omega) (by omega) (fun x => decide (x.1 = m)) (by simp) (fun k _ hk => by simp; omega) w.heap.size 3 (.int .i64 m) _ bX (fun x W hW => by
    refine (wait1_in x.1 x.2 m w.heap.size W (hW.cellAt 0 _ rfl)).mono ?_
    rintro e w' ⟨rfl, rfl⟩
    refine ⟨?_, rfl⟩
    congr 2
    rw [Bool.eq_iff_iff]
    simp
    omega))
  have HC := Lib.hid (check_ok h (w.alloc (.cells #[.int .i64 m] 3)))
  clear h bX h1 h2 h3 h4 h5
  go_enter Try.func11, Try.ntmps11
  go_wp2_with fail
  refine HC.out.mono ?_
  rintro e w' ⟨rfl, rfl⟩
  go_wp2_with fail
  refine HF.out.mono ?_
  rintro e w' ⟨rfl, hk⟩
  go_wp2_with fail
  go_ret2
  exact ⟨rfl, ((Keeps.refl [] w).alloc _).step hk (by simp)⟩
theorem Wait_no {m b c : Int} (h : ¬ FineT m b c) (w : World) : Calls Try.prog 11 #[.int .i64 m, .int .i64 b, .int .i64 c] w (NumPost 0 2 w) := by
  have HC := Lib.hid (check_no h (w.alloc (.cells #[.int .i64 m] 3)))
  clear h
  go_enter Try.func11, Try.ntmps11
  go_wp2_with fail
  refine HC.out.mono ?_
  rintro e w' ⟨rfl, rfl⟩
  go_wp2_with fail
  go_ret2
  exact ⟨rfl, (Keeps.refl [] w).alloc _⟩

set_option maxHeartbeats 1000000 in
theorem Steps_ok {b c : Nat} (h : Fine b c) (w : World) : Calls Try.prog 13 #[.int .i64 b, .int .i64 c] w (NumPost (stepsOf b c) 0 w) := by
  obtain ⟨h3, h4, h5⟩ := id h
  obtain ⟨s1, s2, s3, s4⟩ := steps_spec (b := b) (c := c) (by omega) (by omega) (by omega)
  have bX := Blk.new w 2 #[.int .i64 c]
  have HF := Lib.hid (find_quiet 30 (enters_of Try.func30 (by kernel_rfl) rfl) b c (stepsOf b c) (by omega) (by omega) (by omega) s1 (by omega) (fun x => decide (x.2 = c)) (by simp [s3]) (fun k k1 hk => by simpa using s4 k k1 hk) w.heap.size 2 (.int .i64 c) _ bX (fun x W hW => by
    refine (steps1_in x.1 x.2 c w.heap.size W (hW.cellAt 0 _ rfl)).mono ?_
    rintro e w' ⟨rfl, rfl⟩
    refine ⟨?_, rfl⟩
    congr 2
    rw [Bool.eq_iff_iff]
    simp
    omega))
  have HC := Lib.hid (Check_ok h (w.alloc (.cells #[.int .i64 c] 2)))
  clear h bX h3 h4 h5 s1 s2 s3 s4
  go_enter Try.func13, Try.ntmps13
  go_wp2_with fail
  refine HC.out.mono ?_
  rintro e w' ⟨rfl, rfl⟩
  go_wp2_with fail
  refine HF.out.mono ?_
  rintro e w' ⟨rfl, hk⟩
  go_wp2_with fail
  go_ret2
  exact ⟨rfl, ((Keeps.refl [] w).alloc _).step hk (by simp)⟩
theorem Steps_no {b c : Int} (h : ¬ Fine b c) (w : World) : Calls Try.prog 13 #[.int .i64 b, .int .i64 c] w (NumPost 0 2 w) := by
  have HC := Lib.hid (Check_no h (w.alloc (.cells #[.int .i64 c] 2)))
  clear h
  go_enter Try.func13, Try.ntmps13
  go_wp2_with fail
  refine HC.out.mono ?_
  rintro e w' ⟨rfl, rfl⟩
  go_wp2_with fail
  go_ret2
  exact ⟨rfl, (Keeps.refl [] w).alloc _⟩

/-- All$1: it appends the wait to the slice in a box, and says whether so many have come. -/
theorem all1_in (k u m : Int) (O X B : Nat) (v : Value) (xs : List Int) (W : World) (hO : Blk W O 30 #[v]) (hv : OwnI W B v xs) (hX : W.cell? ⟨X, 0, none⟩ = some (.int .i64 m)) (hXO : X < W.heap.size ∧ X ≠ O) (hXB : X < B) (hB : B ≤ W.heap.size) (hlen : xs.length ≤ 64) :
    Calls Try.prog 31 #[.int .i64 k, .int .i64 u, .pointer (some ⟨O, 0, none⟩), .pointer (some ⟨X, 0, none⟩)] W fun e W' => e = .returned (.bool (k == m)) ∧ (∃ v', Blk W' O 30 #[v'] ∧ OwnI W' B v' (xs ++ [u])) ∧ KeepsOthers W W' ∧ Keepn B [O] W W' ∧ ∀ S W0, Keeps S W0 W → (O ∈ S ∨ W0.heap.size ≤ O) → W0.heap.size ≤ B → Keeps S W0 W' := by
  have cO := hO.cellAt 0 _ rfl
  have hsh := hv.shape
  obtain ⟨a, cap, rfl⟩ := hsh
  have HO := Lib.hid hO
  have HV := Lib.hid hv
  obtain ⟨hX1, hX2⟩ := hXO
  clear hO
  go_enter Try.func31, Try.ntmps31
  go_wp2_with (at_builtin; refine wpList_append_sl rfl (.tmp 7) (.tmp 9) 30 rfl B Try.underlying30 Try.info2 rfl rfl (hv.alloc _) (SlI.lit (xs := [u]) (Blk.new W 2 #[.int .i64 u]) rfl (by unfold maxLen; simp)) (by simp; omega) (by simp; omega) ?_; intro v' w1 hown' hgrow hat; obtain ⟨g', cap', rfl⟩ := ownsRow_succ (k := xs.length) (by have h := hown'; unfold OwnI at h; rw [List.length_append, List.length_singleton] at h; exact h); obtain ⟨hv1, hv2, hr2, hk2, hb2, hn2⟩ := boxed_append (B := O) (base := B) HO.out (by decide) HV.out hown' hgrow; have hc1 := hv1.cell; have hf1 := hv1.frozen; have hX3 : w1.cell? ⟨X, 0, none⟩ = some (.int .i64 m) := (World.cell?_of_block (hgrow.block X (by simp; omega) (fun e => by have := (HV.out.lt X e.symm).1; omega))).trans ((World.cell?_of_block (Below.heap_alloc W _ X hX1)).trans hX))
  go_ret
  exact ⟨rfl, ⟨_, hv2, hr2⟩, hk2, hn2 B [O] (by simp) (Nat.le_refl _) hB, fun S W0 h1 h2 h3 => hb2 S W0 h1 h2 h3⟩

def AllPost (ws : List Int) (w : World) (e : Ending) (w' : World) : Prop := ∃ v, e = .returned (.tuple #[v, .int .i64 0]) ∧ OwnI w' w.heap.size v ws ∧ Keeps [] w w'

theorem pairs_waits (b c m : Nat) : (pairsTo b c m).map (fun x => (x.2 : Int)) = waitsTo b c m := by
  simp [pairsTo, waitsTo]

/-- find with All's question. -/
theorem find_all (b c m : Nat) (hb1 : 1 ≤ b) (hbc : b ≤ c) (hc : c ≤ 1048576) (hm1 : 1 ≤ m) (hm : m ≤ 64) (O X : Nat) (w : World) (hO : Blk w O 30 #[.slice none 0 0]) (hX : Blk w X 3 #[.int .i64 m]) :
    Calls Try.prog 27 #[.int .i64 b, .int .i64 c, .func (.func 31) #[] #[.pointer (some ⟨O, 0, none⟩), .pointer (some ⟨X, 0, none⟩)]] w fun e w' => e = .returned (.tuple #[.int .i64 m, .int .i64 (wj b c (m - 1))]) ∧
      (∃ v, Blk w' O 30 #[v] ∧ OwnI w' (w.heap.size + 5) v (waitsTo b c m)) ∧ Keeps [O] w w' := by
  have hne : X ≠ O := hX.ne hO (by decide)
  have hXl := hX.lt
  have hOl := hO.lt
  refine (find_any 31 #[.pointer (some ⟨O, 0, none⟩), .pointer (some ⟨X, 0, none⟩)] (enters_of Try.func31 (by kernel_rfl) rfl) b c m hb1 hbc hc hm1 hm (fun x => decide (x.1 = m)) (by simp) (fun k _ hk => by simp; omega) [O] w (by simp; omega)
    (fun pre W => ((∃ v, Blk W O 30 #[v] ∧ OwnI W (w.heap.size + 5) v (pre.map fun x => (x.2 : Int))) ∧ Blk W X 3 #[.int .i64 m]) ∧ Keeps [O] w W) ?_ ?_ ⟨⟨⟨_, hO, OwnI.nil _ _⟩, hX⟩, Keeps.refl _ _⟩ ?_).mono ?_
  · refine OwnFrom.and (OwnFrom.and (Own.from ?_ _) (Own.from Blk.own _)) (ownFrom_keeps (Nat.le_refl _))
    rintro pre W W' row ⟨v, h1, h2⟩ hg hr
    refine ⟨v, Blk.own (β := Unit) () W W' row h1 hg hr, ?_⟩
    refine h2.kept hg ?_
    rcases h2.form with ⟨rfl, _⟩ | ⟨g, cap, cur, rfl, _, hb, _⟩
    · exact .inl rfl
    · refine .inr (fun e => ?_)
      obtain ⟨o, ho, hcell⟩ := hr g e.symm
      unfold Blk at hb
      rw [hb] at ho
      cases ho
      cases hcell
  · rintro pre W p u ⟨⟨⟨v, h1, h2⟩, h3⟩, h4⟩ h5 h6
    have hp : Keeps [p.block] W (W.setCell p u) := (Keeps.refl _ _).setCell (.inl (by simp)) u
    exact ⟨⟨⟨v, h1.far (by omega) u, h2.keeps hp (fun y hy => by have := (h2.lt y hy).1; simp; omega)⟩, h3.far (by omega) u⟩, h4.setCell (.inr h5) u⟩
  · rintro pre x W ⟨⟨⟨v, h1, h2⟩, h3⟩, h4⟩ hl h5
    refine (all1_in x.1 x.2 m O X (w.heap.size + 5) v _ W h1 h2 (h3.cellAt 0 _ rfl) ⟨h3.lt, hne⟩ (by omega) h5 (by simpa using Nat.le_of_lt hl)).mono ?_
    rintro e W' ⟨rfl, h6, h7, h8, h9⟩
    refine ⟨?_, ⟨⟨by simpa using h6, ?_⟩, h9 _ _ h4 (.inl (by simp)) (by omega)⟩, h7, h8⟩
    · congr 2
      rw [Bool.eq_iff_iff]
      simp
      omega
    · exact h3.keepn h8 (by omega) (by simp; exact hne)
  · rintro e w' ⟨rfl, ⟨⟨v, h1, h2⟩, _⟩, h4⟩
    rw [pairs_waits] at h2
    exact ⟨rfl, ⟨v, h1, h2⟩, h4⟩

set_option maxHeartbeats 1000000 in
theorem All_ok {m b c : Nat} (h : FineT m b c) (w : World) : Calls Try.prog 18 #[.int .i64 m, .int .i64 b, .int .i64 c] w (AllPost (waitsTo b c m) w) := by
  obtain ⟨h1, h2, h3, h4, h5⟩ := id h
  have bX := (Blk.new w 3 #[.int .i64 m]).alloc (.cells #[.slice none 0 0] 30)
  have bO := Blk.new (w.alloc (.cells #[.int .i64 m] 3)) 30 #[.slice none 0 0]
  simp only [World.size_alloc] at bO
  have HF := Lib.hid (find_all b c m (by omega) (by omega) (by omega) (by omega) (by omega) (w.heap.size + 1) w.heap.size _ bO bX)
  have HC := Lib.hid (check_ok h (w.alloc (.cells #[.int .i64 m] 3)))
  clear h bX bO h1 h2 h3 h4 h5
  go_enter Try.func18, Try.ntmps18
  go_wp2_with fail
  refine HC.out.mono ?_
  rintro e w' ⟨rfl, rfl⟩
  go_wp2_with fail
  refine HF.out.mono ?_
  rintro e w' ⟨rfl, ⟨v, hO, hv⟩, hk⟩
  have cO := hO.cellAt 0 _ rfl
  have hkk := (((Keeps.refl [] w).alloc (.cells #[.int .i64 m] 3)).alloc (.cells #[.slice none 0 0] 30)).step hk (by simp)
  have hv' : OwnI w' w.heap.size v (waitsTo b c m) := hv.base (by simp; omega)
  clear hv hk hO
  go_wp2_with fail
  go_ret2
  exact ⟨_, rfl, hv', hkk⟩
theorem All_no {m b c : Int} (h : ¬ FineT m b c) (w : World) : Calls Try.prog 18 #[.int .i64 m, .int .i64 b, .int .i64 c] w fun e w' => e = .returned (.tuple #[.slice none 0 0, .int .i64 2]) ∧ Keeps [] w w' := by
  have HC := Lib.hid (check_no h (w.alloc (.cells #[.int .i64 m] 3)))
  clear h
  go_enter Try.func18, Try.ntmps18
  go_wp2_with fail
  refine HC.out.mono ?_
  rintro e w' ⟨rfl, rfl⟩
  go_wp2_with fail
  go_ret2
  exact ⟨rfl, (Keeps.refl [] w).alloc _⟩
end Go.Proofs.Ytepicehlknpbfaa
