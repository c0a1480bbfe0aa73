/- The sets of the package and those of the document as things of one kind (Items), with a contract for each method in terms of a state. Condition: sets that New or Copy returned, or nil. -/
import Derived.Test.YtcdnflffpeijfaaDoorRef3
import Derived.Test.YtcdnflffpeijfaaDoorNew
import Derived.Test.YtcdnflffpeijfaaDoorBare3
import Derived.Test.YtcdnflffpeijfaaDoorWorks
import Derived.Test.YtcdnflffpeijfaaDoorItems
namespace Go.Proofs.YtcdnflffpeijfaaDoor
open Go.RowKit

/-- What a set shows: nil, or its size and which numbers it has. -/
abbrev St := Option (Nat × (Nat → Bool))
/-- A set (of the package: true; of the document: false) in a state. -/
def It (w : World) : (Bool × Option Addr × St) → (Nat → Prop) → Prop
  | (_, p, none), _ => p = none
  | (true, p, some (n, f)), C => ∃ b gb, p = some ⟨b, 0, none⟩ ∧ SetOf w b gb n f ∧ C b ∧ C gb
  | (false, p, some (n, f)), C => ∃ c gc, p = some ⟨c, 0, none⟩ ∧ RSet w c gc n f ∧ C c ∧ C gc
theorem itFrame : Frame It := by
  constructor
  · intro w w' it C S h k hS
    obtain ⟨t, p, m⟩ := it
    cases m with
    | none => cases t <;> exact h
    | some nf =>
      obtain ⟨n, f⟩ := nf
      cases t with
      | true =>
        obtain ⟨b, gb, h1, h2, h3, h4⟩ := h
        exact ⟨b, gb, h1, h2.keeps k (fun hx => hS _ hx h2.lt.1 h3) (fun hx => hS _ hx h2.lt.2 h4), h3, h4⟩
      | false =>
        obtain ⟨b, gb, h1, h2, h3, h4⟩ := h
        exact ⟨b, gb, h1, h2.keeps k (fun hx => hS _ hx h2.lt.1 h3) (fun hx => hS _ hx h2.lt.2 h4), h3, h4⟩
  · intro w it C D h hD
    obtain ⟨t, p, m⟩ := it
    cases m with
    | none => cases t <;> exact h
    | some nf =>
      obtain ⟨n, f⟩ := nf
      cases t with
      | true =>
        obtain ⟨b, gb, h1, h2, h3, h4⟩ := h
        exact ⟨b, gb, h1, h2, hD _ h2.lt.1 h3, hD _ h2.lt.2 h4⟩
      | false =>
        obtain ⟨b, gb, h1, h2, h3, h4⟩ := h
        exact ⟨b, gb, h1, h2, hD _ h2.lt.1 h3, hD _ h2.lt.2 h4⟩
def chgErr (m : St) (i : Int) : Int := match m with | none => 1 | some (n, _) => if 0 ≤ i ∧ i < n then 0 else 3
def chgSt (g : (Nat → Bool) → Nat → (Nat → Bool)) (m : St) (i : Int) : St := match m with | none => none | some (n, f) => if 0 ≤ i ∧ i < n then some (n, g f i.toNat) else some (n, f)
def clearSt (m : St) : St := m.map fun nf => (nf.1, noneP)
def cmbErr (m k : St) : Int := match m, k with | none, _ => 1 | some _, none => 1 | some (n, _), some (n', _) => if n = n' then 0 else 2
def cmbSt (g : (Nat → Bool) → (Nat → Bool) → (Nat → Bool)) (m k : St) : St := match m, k with | none, _ => none | some x, none => some x | some (n, f), some (n', f') => if n = n' then some (n, g f f') else some (n, f)
def newErr (s : Int) : Int := if 1 ≤ s ∧ s ≤ 4096 then 0 else 2
def newSt (s : Int) : St := if 1 ≤ s ∧ s ≤ 4096 then some (s.toNat, noneP) else none
def allOf (m : St) : List Nat := match m with | none => [] | some (n, f) => picks n f
def sizeOf_ (m : St) : Nat := match m with | none => 0 | some (n, _) => n
def hasOf (m : St) (i : Int) : Bool := match m with | none => false | some (n, f) => decide (0 ≤ i) && decide (i < n) && f i.toNat
def nextOf (m : St) (i : Int) : Int × Bool := firstOf ((allOf m).filter fun j : Nat => decide (i ≤ (j : Int)))
section
variable {w : World} {p q : Option Addr} {C D : Nat → Prop} {m k : St}

theorem add_b (h : It w (true, p, m) C) (i : Int) : Calls Tryd.prog 16 #[.pointer p, .int .i64 i] w fun e w' => e = .returned (.int .i64 (chgErr m i)) ∧ Chg It w w' C (true, p, chgSt withP m i) := by
  have h0 := h
  cases m with
  | none =>
    obtain rfl : p = none := h
    refine (Add_bare (.nil w)).mono ?_
    rintro e w' ⟨he, rfl⟩
    exact ⟨he, Chg.same itFrame h0 (Keeps.refl _ _)⟩
  | some nf =>
    obtain ⟨n, f⟩ := nf
    obtain ⟨b, gb, rfl, hs, h1, h2⟩ := h
    unfold chgErr chgSt
    by_cases hi : 0 ≤ i ∧ i < (n : Int)
    · dsimp only
      rw [if_pos hi, if_pos hi]
      refine (Add_e hs i i.toNat (by omega) (by omega)).mono ?_
      rintro e w' ⟨he, hs', hk⟩
      exact ⟨he, Chg.in_ itFrame ⟨b, gb, rfl, hs', h1, h2⟩ hk (by simpa using h2)⟩
    · dsimp only
      rw [if_neg hi, if_neg hi]
      refine (Add_op hs (by omega)).mono ?_
      rintro e w' ⟨he, rfl⟩
      exact ⟨he, Chg.same itFrame h0 (Keeps.refl _ _)⟩
theorem remove_b (h : It w (true, p, m) C) (i : Int) : Calls Tryd.prog 17 #[.pointer p, .int .i64 i] w fun e w' => e = .returned (.int .i64 (chgErr m i)) ∧ Chg It w w' C (true, p, chgSt lessP m i) := by
  have h0 := h
  cases m with
  | none =>
    obtain rfl : p = none := h
    refine (Remove_bare (.nil w)).mono ?_
    rintro e w' ⟨he, rfl⟩
    exact ⟨he, Chg.same itFrame h0 (Keeps.refl _ _)⟩
  | some nf =>
    obtain ⟨n, f⟩ := nf
    obtain ⟨b, gb, rfl, hs, h1, h2⟩ := h
    unfold chgErr chgSt
    by_cases hi : 0 ≤ i ∧ i < (n : Int)
    · dsimp only
      rw [if_pos hi, if_pos hi]
      refine (Remove_e hs i i.toNat (by omega) (by omega)).mono ?_
      rintro e w' ⟨he, hs', hk⟩
      exact ⟨he, Chg.in_ itFrame ⟨b, gb, rfl, hs', h1, h2⟩ hk (by simpa using h2)⟩
    · dsimp only
      rw [if_neg hi, if_neg hi]
      refine (Remove_op hs (by omega)).mono ?_
      rintro e w' ⟨he, rfl⟩
      exact ⟨he, Chg.same itFrame h0 (Keeps.refl _ _)⟩
theorem put_r (h : It w (false, p, m) C) (i : Int) (t : Bool) : Calls Tryd.prog 44 #[.pointer p, .int .i64 i, .bool t] w fun e w' => e = .returned (.int .i64 (chgErr m i)) ∧ Chg It w w' C (false, p, chgSt (fun f i => putP f i t) m i) := by
  have h0 := h
  cases m with
  | none =>
    obtain rfl : p = none := h
    refine (RPut_nil i t w).mono ?_
    rintro e w' ⟨he, rfl⟩
    exact ⟨he, Chg.same itFrame h0 (Keeps.refl _ _)⟩
  | some nf =>
    obtain ⟨n, f⟩ := nf
    obtain ⟨b, gb, rfl, hs, h1, h2⟩ := h
    unfold chgErr chgSt
    by_cases hi : 0 ≤ i ∧ i < (n : Int)
    · obtain ⟨j, rfl⟩ := Int.eq_ofNat_of_zero_le hi.1
      dsimp only
      rw [if_pos hi, if_pos hi]
      refine (RPut_in hs j t (by omega)).mono ?_
      rintro e w' ⟨he, hs', hk⟩
      exact ⟨he, Chg.in_ itFrame ⟨b, gb, rfl, hs', h1, h2⟩ hk (by simpa using h2)⟩
    · dsimp only
      rw [if_neg hi, if_neg hi]
      refine (RPut_out hs i t (by omega)).mono ?_
      rintro e w' ⟨he, rfl⟩
      exact ⟨he, Chg.same itFrame h0 (Keeps.refl _ _)⟩
theorem add_r (h : It w (false, p, m) C) (i : Int) : Calls Tryd.prog 28 #[.pointer p, .int .i64 i] w fun e w' => e = .returned (.int .i64 (chgErr m i)) ∧ Chg It w w' C (false, p, chgSt withP m i) := by
  have := RAdd_of (put_r h i true)
  rwa [show (fun (f : Nat → Bool) (i : Nat) => putP f i true) = withP from funext fun f => funext fun i => put_yes f i] at this
theorem remove_r (h : It w (false, p, m) C) (i : Int) : Calls Tryd.prog 29 #[.pointer p, .int .i64 i] w fun e w' => e = .returned (.int .i64 (chgErr m i)) ∧ Chg It w w' C (false, p, chgSt lessP m i) := by
  have := RRemove_of (put_r h i false)
  rwa [show (fun (f : Nat → Bool) (i : Nat) => putP f i false) = lessP from funext fun f => funext fun i => put_no f i] at this
theorem clear_b (h : It w (true, p, m) C) : Calls Tryd.prog 24 #[.pointer p] w fun e w' => e = .returned (.tuple #[]) ∧ Chg It w w' C (true, p, clearSt m) := by
  have h0 := h
  cases m with
  | none =>
    obtain rfl : p = none := h
    refine (Clear_bare (.nil w)).mono ?_
    rintro e w' ⟨he, rfl⟩
    exact ⟨he, Chg.same itFrame h0 (Keeps.refl _ _)⟩
  | some nf =>
    obtain ⟨n, f⟩ := nf
    obtain ⟨b, gb, rfl, hs, h1, h2⟩ := h
    refine (Clear_p hs).mono ?_
    rintro e w' ⟨he, hs', hk⟩
    exact ⟨he, Chg.in_ itFrame (it' := (true, some ⟨b, 0, none⟩, some (n, noneP))) ⟨b, gb, rfl, hs', h1, h2⟩ hk (by simpa using h2)⟩
theorem clear_r (h : It w (false, p, m) C) : Calls Tryd.prog 30 #[.pointer p] w fun e w' => e = .returned (.tuple #[]) ∧ Chg It w w' C (false, p, clearSt m) := by
  have h0 := h
  cases m with
  | none =>
    obtain rfl : p = none := h
    refine (RClear_nil w).mono ?_
    rintro e w' ⟨he, rfl⟩
    exact ⟨he, Chg.same itFrame h0 (Keeps.refl _ _)⟩
  | some nf =>
    obtain ⟨n, f⟩ := nf
    obtain ⟨b, gb, rfl, hs, h1, h2⟩ := h
    refine (RClear_ok hs).mono ?_
    rintro e w' ⟨gc', he, hs', hk, hg⟩
    exact ⟨he, [b], hk, by simpa using fun _ => h1, show It w' (false, some ⟨b, 0, none⟩, some (n, noneP)) _ from ⟨b, gc', rfl, hs', .inl h1, .inr hg⟩⟩
theorem cmb_b (f : Nat) (g : (Nat → Bool) → (Nat → Bool) → (Nat → Bool)) (hf : (f = 20 ∧ g = orP) ∨ (f = 21 ∧ g = minusP)) (h : It w (true, p, m) C) (h' : It w (true, q, k) D) (hCD : ∀ x, C x → ¬ D x) :
    Calls Tryd.prog f #[.pointer p, .pointer q] w fun e w' => e = .returned (.int .i64 (cmbErr m k)) ∧ Chg It w w' C (true, p, cmbSt g m k) := by
  have h0 := h
  cases m with
  | none =>
    obtain rfl : p = none := h
    rcases hf with ⟨rfl, rfl⟩ | ⟨rfl, rfl⟩
    · refine (Union_bare (.nil w)).mono ?_
      rintro e w' ⟨he, hk⟩
      exact ⟨he, Chg.same itFrame h0 hk⟩
    · refine (Minus_bare (.nil w)).mono ?_
      rintro e w' ⟨he, hk⟩
      exact ⟨he, Chg.same itFrame h0 hk⟩
  | some nf =>
    obtain ⟨n, p1⟩ := nf
    obtain ⟨b, gb, rfl, hs, h1, h2⟩ := h
    cases k with
    | none =>
      obtain rfl : q = none := h'
      obtain ⟨ws, hw, _⟩ := hs
      rcases hf with ⟨rfl, rfl⟩ | ⟨rfl, rfl⟩
      · refine (Union_bare2 hw (.nil w)).mono ?_
        rintro e w' ⟨he, hk⟩
        exact ⟨he, Chg.same itFrame h0 hk⟩
      · refine (Minus_bare2 hw (.nil w)).mono ?_
        rintro e w' ⟨he, hk⟩
        exact ⟨he, Chg.same itFrame h0 hk⟩
    | some nf' =>
      obtain ⟨n', p2⟩ := nf'
      obtain ⟨c, gc, rfl, hs', d1, d2⟩ := h'
      have hne : gc ≠ gb := fun e => hCD _ h2 (e ▸ d2)
      unfold cmbErr cmbSt
      by_cases hn : n = n'
      · subst hn
        dsimp only
        rw [if_pos rfl, if_pos rfl]
        rcases hf with ⟨rfl, rfl⟩ | ⟨rfl, rfl⟩
        · refine (Union_p hs hs' hne).mono ?_
          rintro e w' ⟨he, hs2, hk⟩
          exact ⟨he, Chg.in_ itFrame ⟨b, gb, rfl, hs2, h1, h2⟩ hk (by simpa using h2)⟩
        · refine (Minus_p hs hs' hne).mono ?_
          rintro e w' ⟨he, hs2, hk⟩
          exact ⟨he, Chg.in_ itFrame ⟨b, gb, rfl, hs2, h1, h2⟩ hk (by simpa using h2)⟩
      · dsimp only
        rw [if_neg hn, if_neg hn]
        rcases hf with ⟨rfl, rfl⟩ | ⟨rfl, rfl⟩
        · refine (Union_other hs hs' hn).mono ?_
          rintro e w' ⟨he, hk⟩
          exact ⟨he, Chg.same itFrame h0 hk⟩
        · refine (Minus_other hs hs' hn).mono ?_
          rintro e w' ⟨he, hk⟩
          exact ⟨he, Chg.same itFrame h0 hk⟩
theorem cmb_r0 (t : Bool) (g : (Nat → Bool) → (Nat → Bool) → (Nat → Bool)) (hf : (t = true ∧ g = orP) ∨ (t = false ∧ g = minusP)) (h : It w (false, p, m) C) (h' : It w (false, q, k) D) (hCD : ∀ x, C x → ¬ D x) :
    Calls Tryd.prog 46 #[.pointer p, .pointer q, .bool t] w fun e w' => e = .returned (.int .i64 (cmbErr m k)) ∧ Chg It w w' C (false, p, cmbSt g m k) := by
  have h0 := h
  cases m with
  | none =>
    obtain rfl : p = none := h
    refine (Rall_nil q t w).mono ?_
    rintro e w' ⟨he, rfl⟩
    exact ⟨he, Chg.same itFrame h0 (Keeps.refl _ _)⟩
  | some nf =>
    obtain ⟨n, p1⟩ := nf
    obtain ⟨b, gb, rfl, hs, h1, h2⟩ := h
    cases k with
    | none =>
      obtain rfl : q = none := h'
      refine (Rall_nil2 hs t).mono ?_
      rintro e w' ⟨he, rfl⟩
      exact ⟨he, Chg.same itFrame h0 (Keeps.refl _ _)⟩
    | some nf' =>
      obtain ⟨n', p2⟩ := nf'
      obtain ⟨c, gc, rfl, hs', d1, d2⟩ := h'
      have hne : c ≠ gb := fun e => hCD _ h2 (e ▸ d1)
      have hng : gc ≠ gb := fun e => hCD _ h2 (e ▸ d2)
      unfold cmbErr cmbSt
      by_cases hn : n = n'
      · subst hn
        dsimp only
        rw [if_pos rfl, if_pos rfl]
        refine (Rall_ok hs hs' t hne hng).mono ?_
        rintro e w' ⟨he, hs2, hk⟩
        refine ⟨he, Chg.in_ itFrame ⟨b, gb, rfl, hs2.cong (q := g p1 p2) (fun i hi => ?_), h1, h2⟩ hk (by simpa using h2)⟩
        rcases hf with ⟨rfl, rfl⟩ | ⟨rfl, rfl⟩
        · exact putAll_or n p1 p2 i hi
        · exact putAll_minus n p1 p2 i hi
      · dsimp only
        rw [if_neg hn, if_neg hn]
        refine (Rall_other hs hs' t hn).mono ?_
        rintro e w' ⟨he, hk⟩
        exact ⟨he, Chg.same itFrame h0 hk⟩
set_option maxRecDepth 100000 in
theorem union_r (h : It w (false, p, m) C) (h' : It w (false, q, k) D) (hCD : ∀ x, C x → ¬ D x) : Calls Tryd.prog 31 #[.pointer p, .pointer q] w fun e w' => e = .returned (.int .i64 (cmbErr m k)) ∧ Chg It w w' C (false, p, cmbSt orP m k) := by
  have H := Lib.hid (cmb_r0 true orP (.inl ⟨rfl, rfl⟩) h h' hCD)
  clear h h'
  obtain ⟨x, hx⟩ : ∃ x, cmbErr m k = x := ⟨_, rfl⟩
  rw [hx] at H ⊢
  go_enter Tryd.func31, Tryd.ntmps31
  go_wp2_with fail
  refine H.out.mono ?_
  rintro e w1 ⟨rfl, h1⟩
  go_wp2_with fail
  go_ret
  exact ⟨rfl, h1⟩
set_option maxRecDepth 100000 in
theorem minus_r (h : It w (false, p, m) C) (h' : It w (false, q, k) D) (hCD : ∀ x, C x → ¬ D x) : Calls Tryd.prog 32 #[.pointer p, .pointer q] w fun e w' => e = .returned (.int .i64 (cmbErr m k)) ∧ Chg It w w' C (false, p, cmbSt minusP m k) := by
  have H := Lib.hid (cmb_r0 false minusP (.inr ⟨rfl, rfl⟩) h h' hCD)
  clear h h'
  obtain ⟨x, hx⟩ : ∃ x, cmbErr m k = x := ⟨_, rfl⟩
  rw [hx] at H ⊢
  go_enter Tryd.func32, Tryd.ntmps32
  go_wp2_with fail
  refine H.out.mono ?_
  rintro e w1 ⟨rfl, h1⟩
  go_wp2_with fail
  go_ret
  exact ⟨rfl, h1⟩
/-- A new thing and its pointer. -/
def MadeIt (t : Bool) (m : St) (w : World) (e : Ending) (w' : World) : Prop := ∃ p, e = .returned (.pointer p) ∧ Keeps [] w w' ∧ It w' (t, p, m) (fun x => w.heap.size ≤ x)
def NewIt (t : Bool) (err : Int) (m : St) (w : World) (e : Ending) (w' : World) : Prop := ∃ p, e = .returned (.tuple #[.pointer p, .int .i64 err]) ∧ (p = none ↔ m = none) ∧ Keeps [] w w' ∧ It w' (t, p, m) (fun x => w.heap.size ≤ x)
theorem copy_b (h : It w (true, p, m) C) : Calls Tryd.prog 23 #[.pointer p] w (MadeIt true m w) := by
  cases m with
  | none =>
    obtain rfl : p = none := h
    refine (Copy_bare (.nil w)).mono ?_
    rintro e w' ⟨he, rfl⟩
    exact ⟨none, he, Keeps.refl _ _, rfl⟩
  | some nf =>
    obtain ⟨n, f⟩ := nf
    obtain ⟨b, gb, rfl, hs, h1, h2⟩ := h
    refine (Copy_p hs).mono ?_
    rintro e w' ⟨b', gb', he, hs', hk, h3, h4⟩
    exact ⟨_, he, hk, b', gb', rfl, hs', h3, h4⟩
theorem copy_r (h : It w (false, p, m) C) : Calls Tryd.prog 33 #[.pointer p] w (MadeIt false m w) := by
  cases m with
  | none =>
    obtain rfl : p = none := h
    refine (RCopy_nil w).mono ?_
    rintro e w' ⟨he, rfl⟩
    exact ⟨none, he, Keeps.refl _ _, rfl⟩
  | some nf =>
    obtain ⟨n, f⟩ := nf
    obtain ⟨b, gb, rfl, hs, h1, h2⟩ := h
    refine (RCopy_ok hs).mono ?_
    rintro e w' ⟨b', gb', he, hs', hk, h3, h4⟩
    exact ⟨_, he, hk, b', gb', rfl, hs', h3, h4⟩
theorem new_b (s : Int) (w : World) : Calls Tryd.prog 15 #[.int .i64 s] w (NewIt true (newErr s) (newSt s) w) := by
  unfold newErr newSt
  by_cases hs : 1 ≤ s ∧ s ≤ 4096
  · rw [if_pos hs, if_pos hs]
    refine (New_e s s.toNat (by omega) (by omega) (by omega) w).mono ?_
    rintro e w' ⟨b, gb, he, hs', hk, h3, h4⟩
    exact ⟨_, he, by simp, hk, b, gb, rfl, hs', h3, h4⟩
  · rw [if_neg hs, if_neg hs]
    refine (New_no s (by omega) w).mono ?_
    rintro e w' ⟨he, rfl⟩
    exact ⟨none, he, by simp, Keeps.refl _ _, rfl⟩
theorem new_r (s : Int) (w : World) : Calls Tryd.prog 27 #[.int .i64 s] w (NewIt false (newErr s) (newSt s) w) := by
  unfold newErr newSt
  by_cases hs : 1 ≤ s ∧ s ≤ 4096
  · rw [if_pos hs, if_pos hs]
    have h := RNew_ok s.toNat (by omega) (by omega) w
    rw [Int.toNat_of_nonneg (by omega)] at h
    refine h.mono ?_
    rintro e w' ⟨b, gb, he, hs', hk, h3, h4⟩
    exact ⟨_, he, by simp, hk, b, gb, rfl, hs', h3, h4⟩
  · rw [if_neg hs, if_neg hs]
    refine (RNew_no s (by omega) w).mono ?_
    rintro e w' ⟨he, rfl⟩
    exact ⟨none, he, by simp, Keeps.refl _ _, rfl⟩
theorem all_b (h : It w (true, p, m) C) (hT : Table w) : Calls Tryd.prog 22 #[.pointer p] w (AllPost (allOf m) w) := by
  cases m with
  | none =>
    obtain rfl : p = none := h
    exact All_bare (.nil w)
  | some nf =>
    obtain ⟨n, f⟩ := nf
    obtain ⟨b, gb, rfl, hs, h1, h2⟩ := h
    exact All_p hs hT
theorem all_r (h : It w (false, p, m) C) : Calls Tryd.prog 48 #[.pointer p] w (AllPost (allOf m) w) := by
  cases m with
  | none =>
    obtain rfl : p = none := h
    exact RAll_nil w
  | some nf =>
    obtain ⟨n, f⟩ := nf
    obtain ⟨b, gb, rfl, hs, h1, h2⟩ := h
    exact RAll_ok hs
theorem all_len (t : Bool) (h : It w (t, p, m) C) : (allOf m).length ≤ 4096 := by
  cases m with
  | none => exact Nat.zero_le _
  | some nf =>
    obtain ⟨n, f⟩ := nf
    have := picks_len_le n f
    show (picks n f).length ≤ 4096
    cases t with
    | true => obtain ⟨b, gb, rfl, hs, h1, h2⟩ := h; have := hs.most; omega
    | false => obtain ⟨b, gb, rfl, hs, h1, h2⟩ := h; have := hs.most; omega
theorem count_b (h : It w (true, p, m) C) : Calls Tryd.prog 25 #[.pointer p] w fun e w' => e = .returned (.int .i64 (allOf m).length) ∧ Keeps [] w w' := by
  cases m with
  | none =>
    obtain rfl : p = none := h
    refine (Count_bare (.nil w)).mono ?_
    rintro e w' ⟨he, rfl⟩
    exact ⟨he, Keeps.refl _ _⟩
  | some nf =>
    obtain ⟨n, f⟩ := nf
    obtain ⟨b, gb, rfl, hs, h1, h2⟩ := h
    refine (Count_p hs).mono ?_
    rintro e w' ⟨he, rfl⟩
    exact ⟨he, Keeps.refl _ _⟩
theorem size_b (h : It w (true, p, m) C) : Calls Tryd.prog 19 #[.pointer p] w fun e w' => e = .returned (.int .i64 (sizeOf_ m)) ∧ w = w' := by
  cases m with
  | none =>
    obtain rfl : p = none := h
    exact Size_bare (.nil w)
  | some nf =>
    obtain ⟨n, f⟩ := nf
    obtain ⟨b, gb, rfl, hs, h1, h2⟩ := h
    exact Size_p hs
theorem size_r (h : It w (false, p, m) C) : Calls Tryd.prog 50 #[.pointer p] w fun e w' => e = .returned (.int .i64 (sizeOf_ m)) ∧ w = w' := by
  cases m with
  | none =>
    obtain rfl : p = none := h
    exact RSize_nil w
  | some nf =>
    obtain ⟨n, f⟩ := nf
    obtain ⟨b, gb, rfl, hs, h1, h2⟩ := h
    exact RSize_ok hs
theorem has_b (h : It w (true, p, m) C) (i : Int) : Calls Tryd.prog 18 #[.pointer p, .int .i64 i] w fun e w' => e = .returned (.bool (hasOf m i)) ∧ w = w' := by
  cases m with
  | none =>
    obtain rfl : p = none := h
    exact Has_bare (.nil w)
  | some nf =>
    obtain ⟨n, f⟩ := nf
    obtain ⟨b, gb, rfl, hs, h1, h2⟩ := h
    unfold hasOf
    by_cases hi : 0 ≤ i ∧ i < (n : Int)
    · obtain ⟨j, rfl⟩ := Int.eq_ofNat_of_zero_le hi.1
      dsimp only
      rw [decide_eq_true hi.1, decide_eq_true hi.2]
      exact Has_p hs (by omega)
    · have : (decide (0 ≤ i) && decide (i < (n : Int))) = false := by
        rw [Bool.and_eq_false_iff, decide_eq_false_iff_not, decide_eq_false_iff_not]; omega
      dsimp only
      rw [this]
      exact Has_op hs (by omega)
theorem has_r (h : It w (false, p, m) C) (i : Int) : Calls Tryd.prog 51 #[.pointer p, .int .i64 i] w fun e w' => e = .returned (.bool (hasOf m i)) ∧ w = w' := by
  cases m with
  | none =>
    obtain rfl : p = none := h
    exact RHas_nil i w
  | some nf =>
    obtain ⟨n, f⟩ := nf
    obtain ⟨b, gb, rfl, hs, h1, h2⟩ := h
    unfold hasOf
    by_cases hi : 0 ≤ i ∧ i < (n : Int)
    · obtain ⟨j, rfl⟩ := Int.eq_ofNat_of_zero_le hi.1
      dsimp only
      rw [decide_eq_true hi.1, decide_eq_true hi.2]
      exact RHas_in hs j (by omega)
    · have : (decide (0 ≤ i) && decide (i < (n : Int))) = false := by
        rw [Bool.and_eq_false_iff, decide_eq_false_iff_not, decide_eq_false_iff_not]; omega
      dsimp only
      rw [this]
      exact RHas_out hs i (by omega)
theorem next_b (h : It w (true, p, m) C) (hT : Table w) {i : Int} (hi : i ≤ 9223372036854775807) : Calls Tryd.prog 11 #[.pointer p, .int .i64 i] w fun e w' => e = .returned (.tuple #[.int .i64 (nextOf m i).1, .bool (nextOf m i).2]) ∧ Keeps [] w w' := by
  cases m with
  | none =>
    obtain rfl : p = none := h
    exact Next_bare (.nil w)
  | some nf =>
    obtain ⟨n, f⟩ := nf
    obtain ⟨b, gb, rfl, hs, h1, h2⟩ := h
    have := Next_p hs hT hi
    have e : picks n (fromP i f) = (picks n f).filter fun j : Nat => decide (i ≤ (j : Int)) := by
      unfold picks fromP
      rw [List.filter_filter]
    rw [e] at this
    exact this
theorem next_r (h : It w (false, p, m) C) (i : Int) : Calls Tryd.prog 47 #[.pointer p, .int .i64 i] w fun e w' => e = .returned (.tuple #[.int .i64 (nextOf m i).1, .bool (nextOf m i).2]) ∧ Keeps [] w w' := RNext_of (all_r h) i (all_len false h)
theorem count_r (h : It w (false, p, m) C) : Calls Tryd.prog 49 #[.pointer p] w fun e w' => e = .returned (.int .i64 (allOf m).length) ∧ Keeps [] w w' := RCount_of (all_r h)
end
end Go.Proofs.YtcdnflffpeijfaaDoor
