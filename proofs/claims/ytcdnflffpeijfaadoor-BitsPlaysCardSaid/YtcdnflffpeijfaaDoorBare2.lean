/- What Union and Minus refuse. -/
import Derived.Test.YtcdnflffpeijfaaDoorBare
namespace Go.Proofs.YtcdnflffpeijfaaDoor
open Go.RowKit Go.Shelf

attribute [local go_sem] Oper.semAt_some

/-- What a refused combination leaves. -/
def RefusedPost (err : Int) (w : World) (e : Ending) (w' : World) : Prop := e = .returned (.int .i64 err) ∧ Keeps [] w w'
set_option maxRecDepth 100000 in
theorem combine_bare (f : Nat) {p q : Option Addr} {w : World} (h : Bare w p) :
    Calls Tryd.prog 40 #[.pointer p, .pointer q, .func (.func f) #[] #[]] w (RefusedPost 1 w) := by
  have K : Keeps [] w (((w.alloc (.cells #[.pointer p] 24)).alloc (.cells #[.pointer q] 24)).alloc (.cells #[.func (.func f) #[] #[]] 66)) := (((Keeps.refl [] w).alloc _).alloc _).alloc _
  have b0 := ((Blk.new w 24 #[.pointer p]).alloc (.cells #[.pointer q] 24)).alloc (.cells #[.func (.func f) #[] #[]] 66)
  go_enter Tryd.func40, Tryd.ntmps40
  go_wp2_with fail
  obtain ⟨W0, hW0⟩ : ∃ W0, (((w.alloc (.cells #[.pointer p] 24)).alloc (.cells #[.pointer q] 24)).alloc (.cells #[.func (.func f) #[] #[]] 66)) = W0 := ⟨_, rfl⟩
  rw [hW0] at b0 K ⊢
  clear hW0
  have q0 := b0.cellAt 0 _ rfl
  have HM := Lib.hid (made_bare (h.keep0 K))
  clear h b0
  refine HM.out.mono ?_
  rintro e w' ⟨rfl, rfl⟩
  go_wp2_with fail
  go_ret
  exact ⟨rfl, K⟩
set_option maxRecDepth 100000 in
theorem combine_bare2 (f : Nat) {b gb n : Nat} {q : Option Addr} {w : World} {ws : List Nat} (h : IsSet w b gb n ws) (h' : Bare w q) :
    Calls Tryd.prog 40 #[.pointer (some ⟨b, 0, none⟩), .pointer q, .func (.func f) #[] #[]] w (RefusedPost 1 w) := by
  have K : Keeps [] w (((w.alloc (.cells #[.pointer (some ⟨b, 0, none⟩)] 24)).alloc (.cells #[.pointer q] 24)).alloc (.cells #[.func (.func f) #[] #[]] 66)) := (((Keeps.refl [] w).alloc _).alloc _).alloc _
  have b0 := ((Blk.new w 24 #[.pointer (some ⟨b, 0, none⟩)]).alloc (.cells #[.pointer q] 24)).alloc (.cells #[.func (.func f) #[] #[]] 66)
  have b1 := (Blk.new (w.alloc (.cells #[.pointer (some ⟨b, 0, none⟩)] 24)) 24 #[.pointer q]).alloc (.cells #[.func (.func f) #[] #[]] 66)
  simp only [World.size_alloc] at b1
  go_enter Tryd.func40, Tryd.ntmps40
  go_wp2_with fail
  obtain ⟨W0, hW0⟩ : ∃ W0, (((w.alloc (.cells #[.pointer (some ⟨b, 0, none⟩)] 24)).alloc (.cells #[.pointer q] 24)).alloc (.cells #[.func (.func f) #[] #[]] 66)) = W0 := ⟨_, rfl⟩
  rw [hW0] at b0 b1 K ⊢
  clear hW0
  have q0 := b0.cellAt 0 _ rfl
  have q1 := b1.cellAt 0 _ rfl
  have hs := h.keeps K (by simp) (by simp)
  have HM1 := Lib.hid (made_yes hs.size hs.pos)
  have HM := Lib.hid (made_bare (h'.keep0 K))
  clear h h' b0 b1 hs
  refine HM1.out.mono ?_
  rintro e w' ⟨rfl, rfl⟩
  go_wp2_with fail
  refine HM.out.mono ?_
  rintro e w' ⟨rfl, rfl⟩
  go_wp2_with fail
  go_ret
  exact ⟨rfl, K⟩
set_option maxRecDepth 100000 in
theorem combine_sizes (f : Nat) {b gb n c gc m : Nat} {w : World} {ws ts : List Nat} (h : IsSet w b gb n ws) (h' : IsSet w c gc m ts) (hne : n ≠ m) :
    Calls Tryd.prog 40 #[.pointer (some ⟨b, 0, none⟩), .pointer (some ⟨c, 0, none⟩), .func (.func f) #[] #[]] w (RefusedPost 2 w) := by
  have K : Keeps [] w (((w.alloc (.cells #[.pointer (some ⟨b, 0, none⟩)] 24)).alloc (.cells #[.pointer (some ⟨c, 0, none⟩)] 24)).alloc (.cells #[.func (.func f) #[] #[]] 66)) := (((Keeps.refl [] w).alloc _).alloc _).alloc _
  have b0 := ((Blk.new w 24 #[.pointer (some ⟨b, 0, none⟩)]).alloc (.cells #[.pointer (some ⟨c, 0, none⟩)] 24)).alloc (.cells #[.func (.func f) #[] #[]] 66)
  have b1 := (Blk.new (w.alloc (.cells #[.pointer (some ⟨b, 0, none⟩)] 24)) 24 #[.pointer (some ⟨c, 0, none⟩)]).alloc (.cells #[.func (.func f) #[] #[]] 66)
  simp only [World.size_alloc] at b1
  have hne2 : ((n : Int) != (m : Int)) = true := by simp; omega
  have hne3 : ¬ (n : Int) = (m : Int) := by omega
  clear hne
  go_enter Tryd.func40, Tryd.ntmps40
  go_wp2_with fail
  obtain ⟨W0, hW0⟩ : ∃ W0, (((w.alloc (.cells #[.pointer (some ⟨b, 0, none⟩)] 24)).alloc (.cells #[.pointer (some ⟨c, 0, none⟩)] 24)).alloc (.cells #[.func (.func f) #[] #[]] 66)) = W0 := ⟨_, rfl⟩
  rw [hW0] at b0 b1 K ⊢
  clear hW0
  have q0 := b0.cellAt 0 _ rfl
  have q1 := b1.cellAt 0 _ rfl
  have hs := h.keeps K (by simp) (by simp)
  have hs' := h'.keeps K (by simp) (by simp)
  have z1 := hs.size
  have z2 := hs'.size
  have HM1 := Lib.hid (made_yes hs.size hs.pos)
  have HM := Lib.hid (made_yes hs'.size hs'.pos)
  clear h h' b0 b1 hs hs'
  refine HM1.out.mono ?_
  rintro e w' ⟨rfl, rfl⟩
  go_wp2_with fail
  refine HM.out.mono ?_
  rintro e w' ⟨rfl, rfl⟩
  go_wp2_with fail
  go_quiet (fail)
  go_wp2_with fail
  go_ret
  exact ⟨rfl, K.drewN _⟩
section
variable {p q : Option Addr} {b gb n c gc m : Nat} {w : World} {ws ts : List Nat}
set_option maxRecDepth 100000 in
theorem Union_bare (h : Bare w p) : Calls Tryd.prog 20 #[.pointer p, .pointer q] w (RefusedPost 1 w) := by
  have HC := Lib.hid (combine_bare 37 (q := q) h)
  clear h
  go_enter Tryd.func20, Tryd.ntmps20
  go_wp2_with fail
  refine HC.out.mono ?_
  rintro e w' ⟨rfl, hk⟩
  go_wp2_with fail
  go_ret
  exact ⟨rfl, hk⟩
set_option maxRecDepth 100000 in
theorem Minus_bare (h : Bare w p) : Calls Tryd.prog 21 #[.pointer p, .pointer q] w (RefusedPost 1 w) := by
  have HC := Lib.hid (combine_bare 38 (q := q) h)
  clear h
  go_enter Tryd.func21, Tryd.ntmps21
  go_wp2_with fail
  refine HC.out.mono ?_
  rintro e w' ⟨rfl, hk⟩
  go_wp2_with fail
  go_ret
  exact ⟨rfl, hk⟩
set_option maxRecDepth 100000 in
theorem Union_bare2 (h : IsSet w b gb n ws) (h' : Bare w q) : Calls Tryd.prog 20 #[.pointer (some ⟨b, 0, none⟩), .pointer q] w (RefusedPost 1 w) := by
  have HC := Lib.hid (combine_bare2 37 h h')
  clear h h'
  go_enter Tryd.func20, Tryd.ntmps20
  go_wp2_with fail
  refine HC.out.mono ?_
  rintro e w' ⟨rfl, hk⟩
  go_wp2_with fail
  go_ret
  exact ⟨rfl, hk⟩
set_option maxRecDepth 100000 in
theorem Minus_bare2 (h : IsSet w b gb n ws) (h' : Bare w q) : Calls Tryd.prog 21 #[.pointer (some ⟨b, 0, none⟩), .pointer q] w (RefusedPost 1 w) := by
  have HC := Lib.hid (combine_bare2 38 h h')
  clear h h'
  go_enter Tryd.func21, Tryd.ntmps21
  go_wp2_with fail
  refine HC.out.mono ?_
  rintro e w' ⟨rfl, hk⟩
  go_wp2_with fail
  go_ret
  exact ⟨rfl, hk⟩
set_option maxRecDepth 100000 in
theorem Union_sizes (h : IsSet w b gb n ws) (h' : IsSet w c gc m ts) (hne : n ≠ m) : Calls Tryd.prog 20 #[.pointer (some ⟨b, 0, none⟩), .pointer (some ⟨c, 0, none⟩)] w (RefusedPost 2 w) := by
  have HC := Lib.hid (combine_sizes 37 h h' hne)
  clear h h' hne
  go_enter Tryd.func20, Tryd.ntmps20
  go_wp2_with fail
  refine HC.out.mono ?_
  rintro e w' ⟨rfl, hk⟩
  go_wp2_with fail
  go_ret
  exact ⟨rfl, hk⟩
set_option maxRecDepth 100000 in
theorem Minus_sizes (h : IsSet w b gb n ws) (h' : IsSet w c gc m ts) (hne : n ≠ m) : Calls Tryd.prog 21 #[.pointer (some ⟨b, 0, none⟩), .pointer (some ⟨c, 0, none⟩)] w (RefusedPost 2 w) := by
  have HC := Lib.hid (combine_sizes 38 h h' hne)
  clear h h' hne
  go_enter Tryd.func21, Tryd.ntmps21
  go_wp2_with fail
  refine HC.out.mono ?_
  rintro e w' ⟨rfl, hk⟩
  go_wp2_with fail
  go_ret
  exact ⟨rfl, hk⟩
end
end Go.Proofs.YtcdnflffpeijfaaDoor
