/- The iterator of a buffer's first slots. -/
import Derived.Test.YtmojlfkjbnokcaaBuf
import Derived.Test.YtmojlfkjbnokcaaTail
namespace Go.Proofs.Ytmojlfkjbnokcaa
open Go.RowKit Go.Shelf

attribute [local go_sem] Oper.semAt_some

set_option maxRecDepth 100000 in
set_option maxHeartbeats 1000000 in
theorem first_in (b : Nat) (most : Int) (w : World) :
    Calls Try.prog 29 #[.pointer (some ⟨b, 0, none⟩), .int .i64 most] w fun e w' => e = .returned (.func (.func 33) #[] #[.pointer (some ⟨w.heap.size + 1, 0, none⟩), .pointer (some ⟨w.heap.size, 0, none⟩)]) ∧
      (w.alloc (.cells #[.pointer (some ⟨b, 0, none⟩)] 23)).alloc (.cells #[.int .i64 most] 3) = w' := by
  go_enter Try.func29, Try.ntmps29
  go_wp2
  go_ret
  exact ⟨rfl, rfl⟩

/-- The first slots of a list, at most so many. -/
def firsts (L : List Int) (most : Nat) : List Int := L.take most

set_option maxRecDepth 100000 in
set_option maxHeartbeats 1000000 in
theorem first1_in (n : Nat) (hn : 1 ≤ n) (l b Bb Bm n₀ most sz : Nat) (S : List Nat) (L : List Int) (wh : Bool) (J Jx : List Int → World → Prop) (hJd : ∀ pre W k, J pre W → J pre (World.drewN W k)) (hm : (most : Int) ≤ 9223372036854775807)
    (hY : ∀ pre x W, J pre W → pre.length < L.length → YieldAt Fence.wide (n - 1) Try.prog l #[.int .i64 x] W fun e W' =>
      (e = .returned (.bool true) ∧ J (pre ++ [x]) W' ∧ Keepn n₀ S W W') ∨ (e = .returned (.bool false) ∧ Jx (pre ++ [x]) W'))
    (hb : b < n₀) (hBb : Bb < n₀) (hbS : b ∉ S) (hBbS : Bb ∉ S)
    (W : World) (cb : Blk W Bb 23 #[.pointer (some ⟨b, 0, none⟩)]) (cm : Blk W Bm 3 #[.int .i64 most]) (hB : IsBuf W b sz L wh) (h0 : J [] W) :
    CallsIn Fence.wide n Try.prog 33 #[.func (.yield l) #[] #[], .pointer (some ⟨Bm, 0, none⟩), .pointer (some ⟨Bb, 0, none⟩)] W fun e W' => (∃ v, e = .returned v) ∧
      ((∃ ys, ys = L.take most ∧ J ys W') ∨ (∃ pre, pre <+: L.take most ∧ Jx pre W')) := by
  refine callsIn_of_wp Try.func33 rfl trivial ?_ rfl
  simp only [Try.ntmps33, List.size_toArray, List.length_cons, List.length_nil, Nat.reduceAdd, Nat.reduceSub, Array.replicate_succ, Array.replicate_zero, List.push_toArray, List.append_toArray, List.nil_append, List.cons_append]
  have c66 := hB.count
  have cbc : W.cell? ⟨Bb, 0, none⟩ = some (.pointer (some ⟨b, 0, none⟩)) := cb.cellAt 0 _ rfl
  have cmc : W.cell? ⟨Bm, 0, none⟩ = some (.int .i64 most) := cm.cellAt 0 _ rfl
  have l1 : (L.take most).length ≤ most := by rw [List.length_take]; omega
  have l2 : (L.take most).length ≤ L.length := by rw [List.length_take]; omega
  have hle := hB.le
  have HCB := Lib.hid cb
  have HCM := Lib.hid cm
  have HIB := Lib.hid hB
  clear cb cm hB
  rcases Nat.lt_or_ge L.length most with hcmp | hcmp <;>
    (gi_wp2
     gi_region
     gi_wp2
     have l3 : most ≤ (L.take most).length ∨ L.length ≤ (L.take most).length := by rw [List.length_take]; omega
     clear cbc cmc c66
     gi_loopw [11] (fun i wr => ∃ k : Nat, i = .int .i64 k ∧ k ≤ (L.take most).length ∧ J ((L.take most).take k) wr ∧ Keepn n₀ S W wr) (fun i _ => (L.take most).length - (intOf i).toNat)
     case atStart => exact ⟨0, rfl, Nat.zero_le _, hJd _ _ 1 h0, (Keepn.refl _ _ _).drew⟩
     case round =>
       obtain ⟨k, rfl, hk, hJ, hkn⟩ := hrel
       have cbc : wr.cell? ⟨Bb, 0, none⟩ = some (.pointer (some ⟨b, 0, none⟩)) := (HCB.out.keepn hkn hBb hBbS).cellAt 0 _ rfl
       obtain ⟨ring, f, hbl, hr, hz0, hz64, hf, hl, hL⟩ := HIB.out
       have hbk := hbl.keepn hkn hb hbS
       have c64 : wr.cell? ⟨b, 64, none⟩ = some (.int .i64 sz) := hbk.cellAt 64 _ (bufCells_at hr 0)
       have c65 : wr.cell? ⟨b, 65, none⟩ = some (.int .i64 f) := hbk.cellAt 65 _ (bufCells_at hr 1)
       have hm : (f + k) % sz < sz := Nat.mod_lt _ hz0
       have cx : wr.cell? ⟨b, (f + k) % sz, none⟩ = some (.int .i64 (ring.getD ((f + k) % sz) 0)) := hbk.cellAt _ _ (bufCells_ring hr (by omega))
       have HL := Lib.hid hL
       clear hL hr hbl hbk
       by_cases hk' : k < (L.take most).length
       · have ex : ring.getD ((f + k) % sz) 0 = L.getD k 0 := HL.out k (by omega)
         rw [ex] at cx
         have HX := Lib.hid ex
         clear ex
         have et : (L.take most).take (k + 1) = (L.take most).take k ++ [L.getD k 0] := by
           rw [take_last _ _ hk']
           simp [show k < most by omega]
         have HT := Lib.hid et
         clear et
         generalize L.getD k 0 = x at *
         have hJ2 := hJd _ _ 1 hJ
         obtain ⟨fn, tmps, assign, body, hy, hR⟩ := hY _ x wr.drew hJ2 (by rw [List.length_take, List.length_take]; omega)
         have ew : IntKind.i64.wrap ((f : Int) + k) = (f : Int) + k := IntWalk.i64_in _ (by omega)
         have em : ((f : Int) + k).tmod sz = ((f : Int) + k) % sz := Int.tmod_eq_emod_of_nonneg (by omega)
         have em0 : 0 ≤ ((f : Int) + k) % sz := Int.emod_nonneg _ (by omega)
         have em1 : ((f : Int) + k) % sz < sz := Int.emod_lt_of_pos _ (by omega)
         have em2 : (((f : Int) + k) % sz).toNat = (f + k) % sz := by rw [← Int.natCast_add, ← Int.natCast_emod, Int.toNat_natCast]
         gi_wp2
         have hS := hR.mono (fun e W' h => said_of (A := fun W' => J ((L.take most).take k ++ [x]) W' ∧ Keepn n₀ S wr.drew W') (B := fun W' => Jx ((L.take most).take k ++ [x]) W') h)
         clear hR
         have es : ¬ sz = 0 := by omega
         have em3 : ((f : Int) + k) % sz < 64 := by omega
         refine wpIn_region_tail WideF.wide 17 (by kernel_rfl) (by kernel_rfl) ?_
         simp only [List.take_succ_cons, List.take_zero, List.drop_succ_cons, List.drop_zero]
         repeat still_step
         refine wpStill_nil ?_
         gi_wp2
         refine hS.mono ?_
         rintro e W' ⟨t, rfl, hd⟩
         cases t
         · gi_wp2
           refine bodyPost_ret (results_none rfl _ _ _) rfl ?_
           exact ⟨⟨_, rfl⟩, .inr ⟨_, ⟨(L.take most).drop (k + 1), by rw [← HT.out, List.take_append_drop]⟩, hd.2 rfl⟩⟩
         · have hd' := hd.1 rfl
           gi_wp2
           go_roundw
           case rel => exact ⟨k + 1, by go_num, by omega, by rw [HT.out]; exact hd'.1, (hkn.drew).trans hd'.2⟩
           case measure => simp [intOf]; omega
       · gi_wp2
         go_end0
         exact ⟨⟨_, rfl⟩, .inl ⟨_, rfl, by rw [show (L.take most).take k = L.take most from List.take_of_length_le (by omega)] at hJ; exact hJ⟩⟩)
end Go.Proofs.Ytmojlfkjbnokcaa
