/- The reference's sets: a row of booleans; the contracts of its functions. Condition: a set that New or Copy made, or nil. -/
import Derived.Test.YtcdnflffpeijfaaDoorRowB
import Derived.Test.YtcdnflffpeijfaaDoorMade
import Derived.Test.YtcdnflffpeijfaaDoorNexts
namespace Go.Proofs.YtcdnflffpeijfaaDoor
open Go.RowKit

/-- Block c is a set of the reference of size n that has the numbers p; they lie in block gc. -/
structure RSet (w : World) (c gc n : Nat) (p : Nat → Bool) : Prop where
  row : ∃ cap, Blk w c 73 #[.slice (some ⟨gc, 0, none⟩) n cap] ∧ RowB w gc n cap p
  pos : 1 ≤ n
  most : n ≤ 4096
section
variable {w w' : World} {c gc n : Nat} {p q : Nat → Bool} {S : List Nat}
theorem RSet.keeps (h : RSet w c gc n p) (k : Keeps S w w') (hc : c ∉ S) (hg : gc ∉ S) : RSet w' c gc n p := by
  obtain ⟨cap, h1, h2⟩ := h.row
  exact ⟨⟨cap, h1.keeps k hc, h2.keeps k hg⟩, h.pos, h.most⟩
theorem RSet.keep0 (h : RSet w c gc n p) (k : Keeps [] w w') : RSet w' c gc n p := h.keeps k (by simp) (by simp)
theorem RSet.lt (h : RSet w c gc n p) : c < w.heap.size ∧ gc < w.heap.size := by
  obtain ⟨cap, h1, h2⟩ := h.row
  exact ⟨h1.lt, h2.lt⟩
theorem RSet.ne (h : RSet w c gc n p) : gc ≠ c := by
  obtain ⟨cap, h1, h2⟩ := h.row
  obtain ⟨cur, h3, _⟩ := h2.row
  exact h3.ne h1 (by decide)
end
set_option maxRecDepth 100000 in
theorem rvalid_yes {c gc n cap : Nat} {w : World} (h : Blk w c 73 #[.slice (some ⟨gc, 0, none⟩) n cap]) (hn : 1 ≤ n) : Calls Tryd.prog 45 #[.pointer (some ⟨c, 0, none⟩)] w fun e w' => e = .returned (.bool true) ∧ w = w' := by
  have hc := h.cellAt 0 _ rfl
  have hnI : (0 : Int) < n := by omega
  have hn0 : 0 < n := hn
  clear h
  go_enter Tryd.func45, Tryd.ntmps45
  go_wp2
  go_ret
  exact ⟨rfl, rfl⟩
set_option maxRecDepth 100000 in
theorem rvalid_nil (w : World) : Calls Tryd.prog 45 #[.pointer none] w fun e w' => e = .returned (.bool false) ∧ w = w' := by
  go_enter Tryd.func45, Tryd.ntmps45
  go_wp2
  go_ret
  exact ⟨rfl, rfl⟩
set_option maxRecDepth 100000 in
theorem RNew_no (n : Int) (h : n < 1 ∨ 4096 < n) (w : World) : Calls Tryd.prog 27 #[.int .i64 n] w fun e w' => e = .returned (.tuple #[.pointer none, .int .i64 2]) ∧ w = w' := by
  by_cases h1 : n < 1
  · clear h
    go_enter Tryd.func27, Tryd.ntmps27
    go_wp2_with fail
    go_ret2
    exact ⟨rfl, rfl⟩
  · have h2 : 4096 < n := by omega
    clear h
    go_enter Tryd.func27, Tryd.ntmps27
    go_wp2_with fail
    go_ret2
    exact ⟨rfl, rfl⟩
theorem run_bools (n : Nat) (h2 : n ≤ 4096) : ∀ w : World, (Instr.makeSlice 25 (.int .i64 n) (.int .i64 n)).run Tryd.prog w = .ok (.slice (some ⟨w.heap.size, 0, none⟩) n n) (w.alloc (.cells (boolRow n noneP) 4)) := by
  obtain ⟨ti, hi, hz0, hz1, hz2⟩ := info_parts infoBool
  intro w
  have := run_makeSlice (P := Tryd.prog) w 25 4 ti (.bool false) Tryd.underlying25 hi hz0 .i64 .i64 n n (by omega) (by omega) (by rw [hz1, Int.toNat_natCast]; omega) (by rw [hz2]; omega) (by omega)
  rw [hz1, Int.toNat_natCast, Nat.mul_one] at this
  rw [← made_bools n noneP (fun _ => rfl)]
  exact this
/-- A new set. -/
def RNewPost (n : Nat) (p : Nat → Bool) (w : World) (e : Ending) (w' : World) : Prop := ∃ c gc, e = .returned (.tuple #[.pointer (some ⟨c, 0, none⟩), .int .i64 0]) ∧ RSet w' c gc n p ∧ Keeps [] w w' ∧ w.heap.size ≤ c ∧ w.heap.size ≤ gc
def RClearPost (c n : Nat) (w : World) (e : Ending) (w' : World) : Prop := ∃ gc', e = .returned (.tuple #[]) ∧ RSet w' c gc' n noneP ∧ Keeps [c] w w' ∧ w.heap.size ≤ gc'
set_option maxRecDepth 1000000 in
theorem RNew_ok (n : Nat) (h1 : 1 ≤ n) (h2 : n ≤ 4096) (w : World) : Calls Tryd.prog 27 #[.int .i64 n] w (RNewPost n noneP w) := by
  have hmk := run_bools n h2
  have a1 : ¬ (n : Int) < 1 := by omega
  have a2 : ¬ 4096 < (n : Int) := by omega
  have hr := RowB.of (Blk.new w 4 (boolRow n noneP)) h2
  have k1 := (Keeps.refl [] w).alloc (.cells (boolRow n noneP) 4)
  go_enter Tryd.func27, Tryd.ntmps27
  go_wp2_with fail
  go_ret2
  have hc := Blk.new (w.alloc (.cells (boolRow n noneP) 4)) 73 #[.slice (some ⟨w.heap.size, 0, none⟩) n n]
  simp only [World.size_alloc] at hc
  exact ⟨_, w.heap.size, rfl, ⟨⟨n, hc, hr.keeps ((Keeps.refl [] _).alloc _) (by simp)⟩, h1, h2⟩, k1.alloc _, by omega, Nat.le_refl _⟩
set_option maxRecDepth 100000 in
theorem RPut_nil (i : Int) (t : Bool) (w : World) : Calls Tryd.prog 44 #[.pointer none, .int .i64 i, .bool t] w fun e w' => e = .returned (.int .i64 1) ∧ w = w' := by
  have HV := Lib.hid (rvalid_nil w)
  go_enter Tryd.func44, Tryd.ntmps44
  go_wp2_with fail
  refine HV.out.mono ?_
  rintro e w' ⟨rfl, rfl⟩
  go_wp2_with fail
  go_ret
  exact ⟨rfl, rfl⟩
set_option maxRecDepth 100000 in
theorem RPut_out {c gc n : Nat} {p : Nat → Bool} {w : World} (h : RSet w c gc n p) (i : Int) (t : Bool) (hi : i < 0 ∨ (n : Int) ≤ i) : Calls Tryd.prog 44 #[.pointer (some ⟨c, 0, none⟩), .int .i64 i, .bool t] w fun e w' => e = .returned (.int .i64 3) ∧ w = w' := by
  obtain ⟨cap, h1, h2⟩ := h.row
  have HV := Lib.hid (rvalid_yes h1 h.pos)
  have hc := h1.cellAt 0 _ rfl
  clear h h1 h2
  rcases (show i < 0 ∨ (¬ i < 0 ∧ (n : Int) ≤ i) by omega) with h1 | ⟨h1, h2⟩
  all_goals
    clear hi
    go_enter Tryd.func44, Tryd.ntmps44
    go_wp2_with fail
    refine HV.out.mono ?_
    rintro e w' ⟨rfl, rfl⟩
    go_wp2_with fail
    go_ret
    exact ⟨rfl, rfl⟩
/-- A number is put. -/
def putP (p : Nat → Bool) (i : Nat) (t : Bool) : Nat → Bool := fun j => if j = i then t else p j
theorem put_yes (p : Nat → Bool) (i : Nat) : putP p i true = withP p i := by
  funext j
  unfold putP withP
  by_cases e : j = i <;> simp [e]
theorem put_no (p : Nat → Bool) (i : Nat) : putP p i false = lessP p i := by
  funext j
  unfold putP lessP
  by_cases e : j = i <;> simp [e]
set_option maxRecDepth 100000 in
theorem RPut_in {c gc n : Nat} {p : Nat → Bool} {w : World} (h : RSet w c gc n p) (i : Nat) (t : Bool) (hi : i < n) : Calls Tryd.prog 44 #[.pointer (some ⟨c, 0, none⟩), .int .i64 i, .bool t] w fun e w' => e = .returned (.int .i64 0) ∧ RSet w' c gc n (putP p i t) ∧ Keeps [gc] w w' := by
  obtain ⟨cap, h1, h2⟩ := h.row
  have HV := Lib.hid (rvalid_yes h1 h.pos)
  have hc := h1.cellAt 0 _ rfl
  have hcell := h2.cellAt hi
  have hf := h2.frozen i
  have hput := h2.put (b := t) (q := putP p i t) (fun j _ => rfl) hi
  have hiI : (i : Int) < n := by omega
  have k := (Keeps.refl [gc] w).setCell (p := ⟨gc, i, none⟩) (.inl (by simp)) (.bool t)
  have HF := Lib.hid (show RSet (w.setCell ⟨gc, i, none⟩ (.bool t)) c gc n (putP p i t) from ⟨⟨cap, h1.far (fun e => h.ne e.symm) _, hput⟩, h.pos, h.most⟩)
  clear h h1 h2 hput
  go_enter Tryd.func44, Tryd.ntmps44
  go_wp2_with fail
  refine HV.out.mono ?_
  rintro e w' ⟨rfl, rfl⟩
  go_wp2_with fail
  go_ret
  exact ⟨rfl, HF.out, k⟩
set_option maxRecDepth 100000 in
theorem RSize_ok {c gc n : Nat} {p : Nat → Bool} {w : World} (h : RSet w c gc n p) : Calls Tryd.prog 50 #[.pointer (some ⟨c, 0, none⟩)] w fun e w' => e = .returned (.int .i64 n) ∧ w = w' := by
  obtain ⟨cap, h1, h2⟩ := h.row
  have HV := Lib.hid (rvalid_yes h1 h.pos)
  have hc := h1.cellAt 0 _ rfl
  clear h h1 h2
  go_enter Tryd.func50, Tryd.ntmps50
  go_wp2_with fail
  refine HV.out.mono ?_
  rintro e w' ⟨rfl, rfl⟩
  go_wp2_with fail
  go_ret
  exact ⟨rfl, rfl⟩
set_option maxRecDepth 100000 in
theorem RSize_nil (w : World) : Calls Tryd.prog 50 #[.pointer none] w fun e w' => e = .returned (.int .i64 0) ∧ w = w' := by
  have HV := Lib.hid (rvalid_nil w)
  go_enter Tryd.func50, Tryd.ntmps50
  go_wp2_with fail
  refine HV.out.mono ?_
  rintro e w' ⟨rfl, rfl⟩
  go_wp2_with fail
  go_ret
  exact ⟨rfl, rfl⟩
set_option maxRecDepth 100000 in
theorem RHas_nil (i : Int) (w : World) : Calls Tryd.prog 51 #[.pointer none, .int .i64 i] w fun e w' => e = .returned (.bool false) ∧ w = w' := by
  have HV := Lib.hid (rvalid_nil w)
  go_enter Tryd.func51, Tryd.ntmps51
  go_wp2_with fail
  refine HV.out.mono ?_
  rintro e w' ⟨rfl, rfl⟩
  go_wp2_with fail
  go_ret
  exact ⟨rfl, rfl⟩
set_option maxRecDepth 100000 in
theorem RHas_out {c gc n : Nat} {p : Nat → Bool} {w : World} (h : RSet w c gc n p) (i : Int) (hi : i < 0 ∨ (n : Int) ≤ i) : Calls Tryd.prog 51 #[.pointer (some ⟨c, 0, none⟩), .int .i64 i] w fun e w' => e = .returned (.bool false) ∧ w = w' := by
  obtain ⟨cap, h1, h2⟩ := h.row
  have HV := Lib.hid (rvalid_yes h1 h.pos)
  have hc := h1.cellAt 0 _ rfl
  clear h h1 h2
  rcases (show i < 0 ∨ (¬ i < 0 ∧ (n : Int) ≤ i) by omega) with h1 | ⟨h1, h2⟩
  all_goals
    clear hi
    go_enter Tryd.func51, Tryd.ntmps51
    go_wp2_with fail
    refine HV.out.mono ?_
    rintro e w' ⟨rfl, rfl⟩
    go_wp2_with fail
    go_ret
    exact ⟨rfl, rfl⟩
set_option maxRecDepth 100000 in
theorem RHas_in {c gc n : Nat} {p : Nat → Bool} {w : World} (h : RSet w c gc n p) (i : Nat) (hi : i < n) : Calls Tryd.prog 51 #[.pointer (some ⟨c, 0, none⟩), .int .i64 i] w fun e w' => e = .returned (.bool (p i)) ∧ w = w' := by
  obtain ⟨cap, h1, h2⟩ := h.row
  have HV := Lib.hid (rvalid_yes h1 h.pos)
  have hc := h1.cellAt 0 _ rfl
  have hcell := h2.cellAt hi
  have hiI : (i : Int) < n := by omega
  have hi0 : (0 : Int) ≤ i := by omega
  clear h h1 h2
  obtain ⟨t, ht⟩ : ∃ t, p i = t := ⟨_, rfl⟩
  rw [ht] at hcell ⊢
  clear ht
  go_enter Tryd.func51, Tryd.ntmps51
  go_wp2_with fail
  refine HV.out.mono ?_
  rintro e w' ⟨rfl, rfl⟩
  go_wp2_with fail
  go_ret
  exact ⟨rfl, rfl⟩
set_option maxRecDepth 1000000 in
theorem RClear_ok {c gc n : Nat} {p : Nat → Bool} {w : World} (h : RSet w c gc n p) : Calls Tryd.prog 30 #[.pointer (some ⟨c, 0, none⟩)] w (RClearPost c n w) := by
  obtain ⟨cap, h1, h2⟩ := h.row
  have h0 := h.pos
  have hm := h.most
  have HV := Lib.hid (rvalid_yes h1 h.pos)
  have hmk := run_bools n h.most
  have hc := h1.cellAt 0 _ rfl
  have hf := h1.frozen 0
  have hlt := h1.lt
  have hc3 := (h1.alloc (.cells (boolRow n noneP) 4)).cellAt 0 _ rfl
  have hf3 := (h1.alloc (.cells (boolRow n noneP) 4)).frozen 0
  have h3 := (h1.put 0 (.slice (some ⟨w.heap.size, 0, none⟩) n n)).alloc (.cells (boolRow n noneP) 4)
  have hr := RowB.of (Blk.new (w.setCell ⟨c, 0, none⟩ (.slice (some ⟨w.heap.size, 0, none⟩) n n)) 4 (boolRow n noneP)) h.most
  have k := ((Keeps.refl [c] w).setCell (p := ⟨c, 0, none⟩) (.inl (by simp)) (.slice (some ⟨w.heap.size, 0, none⟩) n n)).alloc (.cells (boolRow n noneP) 4)
  have hz : (w.setCell ⟨c, 0, none⟩ (.slice (some ⟨w.heap.size, 0, none⟩) n n)).heap.size = w.heap.size := by simp
  rw [hz] at hr
  have HF := Lib.hid (show RSet ((w.setCell ⟨c, 0, none⟩ (.slice (some ⟨w.heap.size, 0, none⟩) n n)).alloc (.cells (boolRow n noneP) 4)) c w.heap.size n noneP from
    ⟨⟨n, h3, hr⟩, h.pos, h.most⟩)
  clear hz
  clear h h1 h2 h3 hr
  go_enter Tryd.func30, Tryd.ntmps30
  go_wp2_with fail
  refine HV.out.mono ?_
  rintro e w' ⟨rfl, rfl⟩
  go_wp2_with fail
  go_end0
  exact ⟨_, rfl, HF.out, k, Nat.le_refl _⟩
set_option maxRecDepth 100000 in
theorem RClear_nil (w : World) : Calls Tryd.prog 30 #[.pointer none] w fun e w' => e = .returned (.tuple #[]) ∧ w = w' := by
  have HV := Lib.hid (rvalid_nil w)
  go_enter Tryd.func30, Tryd.ntmps30
  go_wp2_with fail
  refine HV.out.mono ?_
  rintro e w' ⟨rfl, rfl⟩
  go_wp2_with fail
  go_end0
  exact ⟨rfl, rfl⟩
end Go.Proofs.YtcdnflffpeijfaaDoor
