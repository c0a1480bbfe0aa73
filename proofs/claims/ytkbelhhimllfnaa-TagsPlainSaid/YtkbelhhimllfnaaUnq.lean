/- The contract of Unquote. Condition: the text has at most 2000 bytes. -/
import Derived.Test.YtkbelhhimllfnaaQuote2
namespace Go.Proofs.Ytkbelhhimllfnaa
open Go.RowKit Go.Lib

def UnqPost (r : List UInt8 × Nat × Int) (w : World) (e : Ending) (w' : World) : Prop := e = .returned (.tuple #[.string ⟨r.1.toArray⟩, .int .i64 r.2.1, .int .i64 r.2.2]) ∧ Keeps [] w w'

theorem builderAt_keeps {T e : TypeId} {B b : Nat} {p : Value} {bs : List Value} {w w' : World} (h : BuilderAtF T e B b p bs w) (k : Keeps [] w w') : BuilderAtF T e B b p bs w' := by
  have hlt := h.lt
  obtain ⟨hB, v, hb, hown, hne⟩ := h
  exact ⟨hB, v, (k.block b hlt (by simp)).trans hb, hown.kept (k.grownBy (row := none) (by simp)) (by cases hv : v.ownBlock <;> simp), hne⟩
theorem builder_keeps {T e : TypeId} {B b : Nat} {bs : List Value} {w w' : World} (h : IsBuilderF T e B b bs w) (k : Keeps [] w w') : IsBuilderF T e B b bs w' :=
  h.elim (fun x => .inl (builderAt_keeps x k)) (fun x => .inr (builderAt_keeps x k))
theorem drop_cons {s : ByteArray} {i : Nat} (h : i < s.size) : s.data.toList.drop i = s[i] :: s.data.toList.drop (i + 1) := by
  rw [List.drop_eq_getElem_cons (by rw [← size_eq]; exact h)]
  rfl

set_option maxRecDepth 100000 in
set_option maxHeartbeats 4000000 in
theorem Unquote_ok (s : ByteArray) (hs : s.size ≤ 2000) (w : World) : Calls Try.prog 23 #[.string s] w (UnqPost (unquote s.data.toList) w) := by
  have HP := Lib.hid (Try.strings_HasPrefix s ⟨#[34]⟩)
  obtain ⟨U, hU⟩ : ∃ U, unquote s.data.toList = U := ⟨_, rfl⟩
  have HU := Lib.hid hU
  rw [hU]
  clear hU
  by_cases hp : ∃ cs, s.data.toList = 34 :: cs
  · obtain ⟨cs, hcs⟩ := hp
    have hpf : Lib.hasPrefix s.data.toList [34] = true := by rw [hcs]; simp [Lib.hasPrefix]
    have hsz0 : 1 ≤ s.size := by rw [size_eq, hcs]; simp
    have hd1 : s.data.toList.drop 1 = cs := by rw [hcs]; rfl
    rw [hcs] at HU
    have HU2 := Lib.hid (show U = (match unq cs false [] 1 with | none => ([], 0, 9) | some (out, n) => if isTag out then (out, n, 0) else ([], 0, 16)) by rw [← HU.out]; rfl)
    clear HU hcs
    go_enter Try.func23, Try.ntmps23
    go_wp2_with fail
    refine (HP.out _).mono ?_
    rintro e w' ⟨rfl, rfl⟩
    rw [hpf]
    clear HP hpf
    obtain ⟨B, hB⟩ : ∃ B, w'.heap.size = B := ⟨_, rfl⟩
    have hI0 : IsBuilderF 47 5 B B (byteCells []) (w'.alloc (.cells #[.pointer none, .slice none 0 0] 47)) := by
      rw [← hB]; exact Lib.IsBuilderF.of (Lib.fresh_isBuilder 47 5 w')
    have hb0 : Below B w' (w'.alloc (.cells #[.pointer none, .slice none 0 0] 47)) := (Below.refl _ w').alloc (by omega) _
    go_wp2_with fail
    go_loopw [6, 7] (fun x y wr => ∃ (i : Nat) (esc : Bool) (acc : List UInt8), x = .bool esc ∧ y = .int .i64 i ∧ 1 ≤ i ∧ i ≤ s.size ∧ acc.length ≤ i ∧ unq cs false [] 1 = unq (s.data.toList.drop i) esc acc i ∧ IsBuilderF 47 5 B B (byteCells acc) wr ∧ Below B w' wr) (fun _ y _ => s.size - (RowKit.intOf y).toNat)
    case atStart => exact ⟨1, false, [], rfl, rfl, Nat.le_refl _, hsz0, by simp, by rw [hd1], hI0, hb0⟩
    case round =>
      obtain ⟨i, esc, acc, rfl, rfl, hi1, hi2, hal, hq, hI, hbw⟩ := hrel
      have HQ := Lib.hid hq
      clear hq
      by_cases hi : i < s.size
      · have hdc := drop_cons hi
        obtain ⟨c, hc⟩ : ∃ c, s[i] = c := ⟨_, rfl⟩
        have hc8 := c.toNat_lt
        rw [hc] at hdc
        have hcc : s[i].toNat = c.toNat := by rw [hc]
        clear hc
        rw [hdc] at HQ
        clear hdc
        have c34 : (c = 34) ↔ c.toNat = 34 := by
          constructor
          · rintro rfl; rfl
          · intro h; exact UInt8.toNat_inj.1 h
        have c92 : (c = 92) ↔ c.toNat = 92 := by
          constructor
          · rintro rfl; rfl
          · intro h; exact UInt8.toNat_inj.1 h
        have HW := Lib.hid (Try.Builder_WriteByte_k B B (byteCells acc) c.toNat wr hI (by rw [byteCells_length]; omega) (by have := hbw.size; omega))
        have hsnoc := Lib.hid (fun W4 (h : BuilderAtF 47 5 B B (.pointer (some ⟨B, 0, none⟩)) (byteCells acc ++ [.int .u8 c.toNat]) W4) => show IsBuilderF 47 5 B B (byteCells (acc ++ [c])) W4 by
          rw [bytes_snoc]; exact Or.inr h)
        cases esc with
        | true =>
          by_cases hgo : c.toNat = 34 ∨ c.toNat = 92
          · have hq2 : unq (c :: s.data.toList.drop (i + 1)) true acc i = unq (s.data.toList.drop (i + 1)) false (acc ++ [c]) (i + 1) := by
              rw [unq, if_neg (by rw [ne_eq, ne_eq, c34, c92]; omega)]
            have HQ2 := Lib.hid hq2
            clear hq2
            by_cases h34 : c.toNat = 34
            · have hne3 : ((c.toNat : Int) != 34) = false := by simp; omega
              clear hgo h34
              go_wp2_with fail
              refine HW.out.mono ?_
              rintro e W2 ⟨rfl, h2, b2, k2⟩
              clear k2
              go_wp2_with fail
              go_roundw
              case rel => exact ⟨i + 1, false, acc ++ [c], rfl, by go_num, by omega, by omega, by simp; omega, HQ.out.trans HQ2.out, hsnoc.out _ h2, hbw.trans b2⟩
              case measure => simp [RowKit.intOf]; omega
            · have h92 : c.toNat = 92 := by omega
              have hne3 : ((c.toNat : Int) != 34) = true := by simp; omega
              have hne4 : ((c.toNat : Int) != 92) = false := by simp; omega
              clear hgo h34 h92
              go_wp2_with fail
              refine HW.out.mono ?_
              rintro e W2 ⟨rfl, h2, b2, k2⟩
              clear k2
              go_wp2_with fail
              go_roundw
              case rel => exact ⟨i + 1, false, acc ++ [c], rfl, by go_num, by omega, by omega, by simp; omega, HQ.out.trans HQ2.out, hsnoc.out _ h2, hbw.trans b2⟩
              case measure => simp [RowKit.intOf]; omega
          · have hq2 : unq (c :: s.data.toList.drop (i + 1)) true acc i = none := by
              rw [unq, if_pos (by rw [ne_eq, ne_eq, c34, c92]; omega)]
            rw [HQ.out, hq2] at HU2
            clear hq2
            have hne3 : ((c.toNat : Int) != 34) = true := by simp; omega
            have hne4 : ((c.toNat : Int) != 92) = true := by simp; omega
            clear hgo
            go_wp2_with fail
            refine bodyPost_ret (results_tmp3 rfl _ _ _) rfl ?_
            rw [HU2.out]
            exact ⟨rfl, below_keeps hbw (by omega)⟩
        | false =>
          by_cases h92 : c.toNat = 92
          · have hq2 : unq (c :: s.data.toList.drop (i + 1)) false acc i = unq (s.data.toList.drop (i + 1)) true acc (i + 1) := by
              rw [unq, if_pos (c92.2 h92)]
            have HQ2 := Lib.hid hq2
            clear hq2
            have hne2 : ((c.toNat : Int) == 92) = true := by simp; omega
            clear h92
            go_wp2_with fail
            go_roundw
            case rel => exact ⟨i + 1, true, acc, rfl, by go_num, by omega, by omega, by omega, HQ.out.trans HQ2.out, hI, hbw⟩
            case measure => simp [RowKit.intOf]; omega
          · have hne2 : ((c.toNat : Int) == 92) = false := by simp; omega
            by_cases h34 : c.toNat = 34
            · have hq2 : unq (c :: s.data.toList.drop (i + 1)) false acc i = some (acc, i + 1) := by
                rw [unq, if_neg (by rw [c92]; omega), if_pos (c34.2 h34)]
              rw [HQ.out, hq2] at HU2
              clear hq2
              have hne : ((c.toNat : Int) == 34) = true := by simp; omega
              clear h34
              have hszr : B ≤ wr.heap.size := by have := hbw.size; omega
              have HS := Lib.hid (Try.Builder_String_any_k B B acc wr hI hszr)
              have HC := Lib.hid (Check_ok ⟨acc.toArray⟩)
              cases ht : isTag acc with
              | false =>
                have hT : tagErr acc = 16 := by unfold tagErr; rw [ht]; rfl
                have HU3 := HU2.out
                simp only [ht] at HU3
                have HU4 := Lib.hid HU3
                have HC2 := Lib.hid (fun w => (show Calls Try.prog 13 #[.string ⟨acc.toArray⟩] w fun e w' => e = .returned (.int .i64 16) ∧ Keeps [] w w' by have := HC.out w; rw [show tagErr (⟨acc.toArray⟩ : ByteArray).data.toList = 16 from hT] at this; exact this))
                clear HU2 HU3 HC hT ht
                go_wp2_with fail
                refine HS.out.mono ?_
                rintro e W2 ⟨rfl, h2, b2, k2⟩
                clear k2
                go_wp2_with fail
                refine (HC2.out _).mono ?_
                rintro e W3 ⟨rfl, k3⟩
                go_wp2_with fail
                refine bodyPost_ret (results_tmp3 rfl _ _ _) rfl ?_
                rw [HU4.out]
                exact ⟨rfl, (below_keeps (hbw.trans b2) (by omega)).trans k3⟩
              | true =>
                have hT : tagErr acc = 0 := tagErr_zero.2 ht
                have HU3 := HU2.out
                simp only [ht] at HU3
                have HU4 := Lib.hid HU3
                have HC2 := Lib.hid (fun w => (show Calls Try.prog 13 #[.string ⟨acc.toArray⟩] w fun e w' => e = .returned (.int .i64 0) ∧ Keeps [] w w' by have := HC.out w; rw [show tagErr (⟨acc.toArray⟩ : ByteArray).data.toList = 0 from hT] at this; exact this))
                clear HU2 HU3 HC hT ht
                go_wp2_with fail
                refine HS.out.mono ?_
                rintro e W2 ⟨rfl, h2, b2, k2⟩
                clear k2
                go_wp2_with fail
                refine (HC2.out _).mono ?_
                rintro e W3 ⟨rfl, k3⟩
                have hszr2 : B ≤ W2.heap.size := by have := b2.size; omega
                have hszr3 : B ≤ W3.heap.size := by have := k3.size; omega
                have h3 : IsBuilderF 47 5 B B (byteCells acc) W3 := builder_keeps h2 k3
                have HS2 := Lib.hid (Try.Builder_String_any_k B B acc W3 h3 hszr3)
                go_wp2_with fail
                refine HS2.out.mono ?_
                rintro e W4 ⟨rfl, h4, b4, k4⟩
                clear k4
                go_wp2_with fail
                refine bodyPost_ret (results_tmp3 rfl _ _ _) rfl ?_
                rw [HU4.out]
                exact ⟨rfl, below_keeps (((hbw.trans b2).trans (k3.toBelow (by omega) (by simp))).trans b4) (by omega)⟩
            · have hq2 : unq (c :: s.data.toList.drop (i + 1)) false acc i = unq (s.data.toList.drop (i + 1)) false (acc ++ [c]) (i + 1) := by
                rw [unq, if_neg (by rw [c92]; omega), if_neg (by rw [c34]; omega)]
              have HQ2 := Lib.hid hq2
              clear hq2
              have hne : ((c.toNat : Int) == 34) = false := by simp; omega
              clear h34
              go_wp2_with fail
              refine HW.out.mono ?_
              rintro e W2 ⟨rfl, h2, b2, k2⟩
              clear k2
              go_wp2_with fail
              go_roundw
              case rel => exact ⟨i + 1, false, acc ++ [c], rfl, by go_num, by omega, by omega, by simp; omega, HQ.out.trans HQ2.out, hsnoc.out _ h2, hbw.trans b2⟩
              case measure => simp [RowKit.intOf]; omega
      · have hi' : i = s.size := by omega
        rw [drop_end (by omega)] at HQ
        have hq2 : unq [] esc acc i = none := by cases esc <;> rfl
        rw [HQ.out, hq2] at HU2
        clear hq2
        go_wp2_with fail
        refine bodyPost_ret (results_tmp3 rfl _ _ _) rfl ?_
        rw [HU2.out]
        exact ⟨rfl, below_keeps hbw (by omega)⟩
  · have hpf : Lib.hasPrefix s.data.toList [34] = false := by
      cases hl : s.data.toList with
      | nil => rfl
      | cons c cs =>
        have hc : c ≠ 34 := fun e => hp ⟨cs, by rw [hl, e]⟩
        have : ((34 : UInt8) == c) = false := by simp; exact fun e => hc e.symm
        simp [Lib.hasPrefix, List.isPrefixOf, this]
    have hu : unquote s.data.toList = ([], 0, 9) := by
      cases hl : s.data.toList with
      | nil => rfl
      | cons c cs =>
        have hc : c ≠ 34 := fun e => hp ⟨cs, by rw [hl, e]⟩
        simp [unquote, hc]
    rw [hu] at HU
    clear hu hp
    go_enter Try.func23, Try.ntmps23
    go_wp2_with fail
    refine (HP.out _).mono ?_
    rintro e w' ⟨rfl, rfl⟩
    rw [hpf]
    go_wp2_with fail
    refine bodyPost_ret (results_tmp3 rfl _ _ _) rfl ?_
    rw [← HU.out]
    exact ⟨rfl, Keeps.refl _ _⟩
end Go.Proofs.Ytkbelhhimllfnaa
