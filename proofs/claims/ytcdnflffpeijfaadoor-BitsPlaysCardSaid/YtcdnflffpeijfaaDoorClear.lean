/- The contract of Clear. Condition: a set that New or Copy made. -/
import Derived.Test.YtcdnflffpeijfaaDoorNew
import Derived.Lib.SliceRun
namespace Go.Proofs.YtcdnflffpeijfaaDoor
open Go.RowKit

theorem Keeps.setCells {S : List Nat} {a : World} {g : Nat} (hg : g ∈ S ∨ a.heap.size ≤ g) : ∀ (vs : List Value) (o : Nat) (w : World), Keeps S a w → Keeps S a (w.setCells g o vs)
  | [], _, _, h => h
  | v :: vs, o, w, h => Keeps.setCells hg vs (o + 1) (w.setCell ⟨g, o, none⟩ v) (h.setCell hg v)
theorem zero67 (w : World) : (zeroValue 67).run Tryd.prog w = .ok (.int .u64 0) w := by kernel_rfl

/-- Words of which those from o on are set to zero. -/
def zeroFrom : Nat → Nat → List Nat → List Nat
  | 0, _, ws => ws
  | m + 1, o, ws => zeroFrom m (o + 1) (ws.set o 0)
theorem zeroFrom_len : ∀ (m o : Nat) (ws : List Nat), (zeroFrom m o ws).length = ws.length
  | 0, _, _ => rfl
  | m + 1, o, ws => by unfold zeroFrom; rw [zeroFrom_len m, List.length_set]
theorem zeroFrom_at : ∀ (m o : Nat) (ws : List Nat) (k : Nat), o ≤ k → k < o + m → k < ws.length → (zeroFrom m o ws).getD k 0 = 0
  | 0, o, ws, k, h1, h2, _ => by omega
  | m + 1, o, ws, k, h1, h2, h3 => by
    unfold zeroFrom
    by_cases e : k = o
    · subst e
      have : ∀ (m o' : Nat) (ws : List Nat), k < o' → (zeroFrom m o' ws).getD k 0 = ws.getD k 0 := by
        intro m
        induction m with
        | zero => intros; rfl
        | succ m ih =>
          intro o' ws h
          unfold zeroFrom
          rw [ih (o' + 1) _ (by omega)]
          simp [List.getD, List.getElem?_set, show ¬ o' = k by omega]
      rw [this m (k + 1) _ (by omega)]
      simp [List.getD, List.getElem?_set, h3]
    · exact zeroFrom_at m (o + 1) _ k (by omega) (by omega) (by rw [List.length_set]; exact h3)
theorem has_set_zero (ws : List Nat) (q i : Nat) (h : has ws i = false) : has (ws.set q 0) i = false := by
  unfold has at h ⊢
  by_cases e : q = i / 64
  · by_cases hl : i / 64 < ws.length
    · simp [List.getD, List.getElem?_set, e, hl]
    · simp [List.getD, List.getElem?_set, e, hl]
  · simpa [List.getD, List.getElem?_set, e] using h
theorem IsSet.zeroCells {b gb n : Nat} : ∀ (m o : Nat) (ws : List Nat) (w : World), IsSet w b gb n ws → o + m = ws.length → IsSet (w.setCells gb o (List.replicate m (.int .u64 0))) b gb n (zeroFrom m o ws)
  | 0, _, _, _, h, _ => h
  | m + 1, o, ws, w, h, hl => by
    have h1 := h.put (q := o) (by omega) (y := 0) (by decide) (fun i hi => has_set_zero ws o i (h.over i hi))
    exact IsSet.zeroCells m (o + 1) _ _ h1 (by rw [List.length_set]; omega)
theorem zeroFrom_all (ws : List Nat) : zeroFrom ws.length 0 ws = List.replicate ws.length 0 := by
  apply List.ext_getElem
  · rw [zeroFrom_len, List.length_replicate]
  · intro k h1 h2
    rw [zeroFrom_len] at h1
    have := zeroFrom_at ws.length 0 ws k (by omega) (by omega) h1
    rw [List.getElem_replicate]
    simpa [List.getD, List.getElem?_eq_getElem (show k < (zeroFrom ws.length 0 ws).length by rw [zeroFrom_len]; exact h1)] using this

set_option maxRecDepth 1000000 in
theorem Clear_in {b gb n : Nat} {w : World} {ws : List Nat} (h : IsSet w b gb n ws) :
    Calls Tryd.prog 24 #[.pointer (some ⟨b, 0, none⟩)] w fun e w' => e = .returned (.tuple #[]) ∧ IsSet w' b gb n (List.replicate ws.length 0) ∧ Keeps [gb] w w' := by
  have hs := h.size
  have HM := Lib.hid (made_yes hs h.pos)
  have hpos : 0 < ws.length := by have := h.len; have := h.pos; omega
  obtain ⟨cap, cur, hb, hg, h3, h4, h5, h6⟩ := h.row
  have hc1 := hb.cellAt 1 _ rfl
  have hclr : ∀ ty, (Builtin.clear_ #[56] ty #[.slice (some ⟨gb, 0, none⟩) ws.length cap]).run Tryd.prog w = .ok (.tuple #[]) (w.setCells gb 0 (List.replicate ws.length (.int .u64 0))) := fun ty =>
    Lib.run_clear_slice w 56 67 ty _ Tryd.underlying56 zero67 rfl rfl gb 0 ws.length cap hpos (fun j hj => by rw [hg.cell]; simp; omega) (fun j _ => hg.frozen _)
  have HZ := Lib.hid (h.zeroCells ws.length 0 ws w (by omega))
  have HE := Lib.hid (zeroFrom_all ws)
  have HK := Lib.hid (Keeps.setCells (S := [gb]) (a := w) (g := gb) (.inl (by simp)) (List.replicate ws.length (.int .u64 0)) 0 w (Keeps.refl _ _))
  clear h hb hg h3 h4 h5 h6
  generalize w.setCells gb 0 (List.replicate ws.length (.int .u64 0)) = w1 at *
  go_enter Tryd.func24, Tryd.ntmps24
  go_wp2_with fail
  refine HM.out.mono ?_
  rintro e w' ⟨rfl, rfl⟩
  go_wp2_with fail
  go_end0
  refine ⟨rfl, ?_, HK.out⟩
  rw [← HE.out]
  exact HZ.out
end Go.Proofs.YtcdnflffpeijfaaDoor
