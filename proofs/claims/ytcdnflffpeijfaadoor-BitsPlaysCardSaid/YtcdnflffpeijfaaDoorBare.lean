/- The contracts of the methods of a set that was not made (nil, or a zero one); what the others refuse. -/
import Derived.Test.YtcdnflffpeijfaaDoorNext
import Derived.Test.YtcdnflffpeijfaaDoorClear
import Derived.Test.YtcdnflffpeijfaaDoorCopy2
import Derived.Test.YtcdnflffpeijfaaDoorUnion
namespace Go.Proofs.YtcdnflffpeijfaaDoor
open Go.RowKit Go.Shelf

attribute [local go_sem] Oper.semAt_some

/-- A set that was not made. -/
def Bare (w : World) (p : Option Addr) : Prop := p = none ∨ ∃ b, p = some ⟨b, 0, none⟩ ∧ b < w.heap.size ∧ w.cell? ⟨b, 0, none⟩ = some (.int .i64 0)
theorem Bare.nil (w : World) : Bare w none := .inl rfl
theorem Bare.keeps {w w' : World} {p : Option Addr} {S : List Nat} (h : Bare w p) (k : Keeps S w w') (hS : ∀ b, p = some ⟨b, 0, none⟩ → b ∉ S) : Bare w' p := by
  rcases h with h | ⟨b, rfl, h1, h2⟩
  · exact .inl h
  · exact .inr ⟨b, rfl, Nat.lt_of_lt_of_le h1 k.size, (k.cell (p := ⟨b, 0, none⟩) h1 (hS b rfl)).trans h2⟩
theorem Bare.keep0 {w w' : World} {p : Option Addr} (h : Bare w p) (k : Keeps [] w w') : Bare w' p := h.keeps k (by simp)
theorem made_bare {p : Option Addr} {w : World} (h : Bare w p) : Calls Tryd.prog 39 #[.pointer p] w fun e w' => e = .returned (.bool false) ∧ w = w' := by
  rcases h with rfl | ⟨b, rfl, _, h2⟩
  · exact made_nil w
  · exact made_no h2

set_option maxRecDepth 100000 in
theorem change_bare (f : Nat) {p : Option Addr} {i : Int} {w : World} (h : Bare w p) :
    Calls Tryd.prog 36 #[.pointer p, .int .i64 i, .func (.func f) #[] #[]] w fun e w' => e = .returned (.int .i64 1) ∧ w = w' := by
  have HM := Lib.hid (made_bare h)
  clear h
  go_enter Tryd.func36, Tryd.ntmps36
  go_wp2_with fail
  refine HM.out.mono ?_
  rintro e w' ⟨rfl, rfl⟩
  go_wp2_with fail
  go_ret
  exact ⟨rfl, rfl⟩
set_option maxRecDepth 100000 in
theorem Add_bare {p : Option Addr} {i : Int} {w : World} (h : Bare w p) : Calls Tryd.prog 16 #[.pointer p, .int .i64 i] w fun e w' => e = .returned (.int .i64 1) ∧ w = w' := by
  have HC := Lib.hid (change_bare 37 (i := i) h)
  clear h
  go_enter Tryd.func16, Tryd.ntmps16
  go_wp2_with fail
  refine HC.out.mono ?_
  rintro e w' ⟨rfl, rfl⟩
  go_wp2_with fail
  go_ret
  exact ⟨rfl, rfl⟩
set_option maxRecDepth 100000 in
theorem Remove_bare {p : Option Addr} {i : Int} {w : World} (h : Bare w p) : Calls Tryd.prog 17 #[.pointer p, .int .i64 i] w fun e w' => e = .returned (.int .i64 1) ∧ w = w' := by
  have HC := Lib.hid (change_bare 38 (i := i) h)
  clear h
  go_enter Tryd.func17, Tryd.ntmps17
  go_wp2_with fail
  refine HC.out.mono ?_
  rintro e w' ⟨rfl, rfl⟩
  go_wp2_with fail
  go_ret
  exact ⟨rfl, rfl⟩
set_option maxRecDepth 100000 in
theorem Add_out {b gb n : Nat} {i : Int} {w : World} {ws : List Nat} (h : IsSet w b gb n ws) (hi : i < 0 ∨ (n : Int) ≤ i) : Calls Tryd.prog 16 #[.pointer (some ⟨b, 0, none⟩), .int .i64 i] w fun e w' => e = .returned (.int .i64 3) ∧ w = w' := by
  have HC := Lib.hid (change_out 37 (enters_of Tryd.func37 (by kernel_rfl) rfl) h hi)
  clear h hi
  go_enter Tryd.func16, Tryd.ntmps16
  go_wp2_with fail
  refine HC.out.mono ?_
  rintro e w' ⟨rfl, rfl⟩
  go_wp2_with fail
  go_ret
  exact ⟨rfl, rfl⟩
set_option maxRecDepth 100000 in
theorem Remove_out {b gb n : Nat} {i : Int} {w : World} {ws : List Nat} (h : IsSet w b gb n ws) (hi : i < 0 ∨ (n : Int) ≤ i) : Calls Tryd.prog 17 #[.pointer (some ⟨b, 0, none⟩), .int .i64 i] w fun e w' => e = .returned (.int .i64 3) ∧ w = w' := by
  have HC := Lib.hid (change_out 38 (enters_of Tryd.func38 (by kernel_rfl) rfl) h hi)
  clear h hi
  go_enter Tryd.func17, Tryd.ntmps17
  go_wp2_with fail
  refine HC.out.mono ?_
  rintro e w' ⟨rfl, rfl⟩
  go_wp2_with fail
  go_ret
  exact ⟨rfl, rfl⟩
set_option maxRecDepth 100000 in
theorem Has_bare {p : Option Addr} {i : Int} {w : World} (h : Bare w p) : Calls Tryd.prog 18 #[.pointer p, .int .i64 i] w fun e w' => e = .returned (.bool false) ∧ w = w' := by
  have HM := Lib.hid (made_bare h)
  clear h
  go_enter Tryd.func18, Tryd.ntmps18
  go_wp2_with fail
  refine HM.out.mono ?_
  rintro e w' ⟨rfl, rfl⟩
  go_wp2_with fail
  go_ret
  exact ⟨rfl, rfl⟩
set_option maxRecDepth 100000 in
theorem Size_bare {p : Option Addr} {w : World} (h : Bare w p) : Calls Tryd.prog 19 #[.pointer p] w fun e w' => e = .returned (.int .i64 0) ∧ w = w' := by
  have HM := Lib.hid (made_bare h)
  clear h
  go_enter Tryd.func19, Tryd.ntmps19
  go_wp2_with fail
  refine HM.out.mono ?_
  rintro e w' ⟨rfl, rfl⟩
  go_wp2_with fail
  go_ret
  exact ⟨rfl, rfl⟩
set_option maxRecDepth 100000 in
theorem Count_bare {p : Option Addr} {w : World} (h : Bare w p) : Calls Tryd.prog 25 #[.pointer p] w fun e w' => e = .returned (.int .i64 0) ∧ w = w' := by
  have HM := Lib.hid (made_bare h)
  clear h
  go_enter Tryd.func25, Tryd.ntmps25
  go_wp2_with fail
  refine HM.out.mono ?_
  rintro e w' ⟨rfl, rfl⟩
  go_wp2_with fail
  go_ret
  exact ⟨rfl, rfl⟩
set_option maxRecDepth 100000 in
theorem Clear_bare {p : Option Addr} {w : World} (h : Bare w p) : Calls Tryd.prog 24 #[.pointer p] w fun e w' => e = .returned (.tuple #[]) ∧ w = w' := by
  have HM := Lib.hid (made_bare h)
  clear h
  go_enter Tryd.func24, Tryd.ntmps24
  go_wp2_with fail
  refine HM.out.mono ?_
  rintro e w' ⟨rfl, rfl⟩
  go_wp2_with fail
  go_end0
  exact ⟨rfl, rfl⟩
set_option maxRecDepth 100000 in
theorem Copy_bare {p : Option Addr} {w : World} (h : Bare w p) : Calls Tryd.prog 23 #[.pointer p] w fun e w' => e = .returned (.pointer none) ∧ w = w' := by
  have HM := Lib.hid (made_bare h)
  clear h
  go_enter Tryd.func23, Tryd.ntmps23
  go_wp2_with fail
  refine HM.out.mono ?_
  rintro e w' ⟨rfl, rfl⟩
  go_wp2_with fail
  go_ret
  exact ⟨rfl, rfl⟩
end Go.Proofs.YtcdnflffpeijfaaDoor
