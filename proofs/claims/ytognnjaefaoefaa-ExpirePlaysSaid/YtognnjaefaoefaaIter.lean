/- The iterator of until: the ids of the entries up to a time. Condition: a queue that was made, or one that was not. -/
import Derived.Test.YtognnjaefaoefaaSet
import Derived.Test.YtognnjaefaoefaaTail
namespace Go.Proofs.Ytognnjaefaoefaa
open Go.RowKit Go.Shelf

attribute [local go_sem] Oper.semAt_some

/-- How many entries ahead are due. -/
def dueN (L : List (Int × Int)) (now : Int) : Nat := (L.takeWhile fun e => decide (e.2 ≤ now)).length
theorem dueN_le (L : List (Int × Int)) (now : Int) : dueN L now ≤ L.length := (List.takeWhile_sublist _).length_le
theorem due_here : ∀ {L : List (Int × Int)} {now : Int} {k : Nat}, k < L.length → k ≤ dueN L now → now < (L.getD k (0, 0)).2 → dueN L now = k
  | [], now, k, h, _, _ => by simp at h
  | e :: L, now, 0, _, _, h => by
    unfold dueN
    have : ¬ e.2 ≤ now := by simp at h; omega
    simp [this]
  | e :: L, now, k + 1, h, hk, hn => by
    unfold dueN at hk ⊢
    by_cases he : e.2 ≤ now
    · simp only [List.takeWhile_cons, he, decide_true, if_true, List.length_cons] at hk ⊢
      have := due_here (L := L) (now := now) (k := k) (by simpa using h) (by unfold dueN; omega) (by simpa using hn)
      unfold dueN at this
      omega
    · simp [he] at hk
theorem due_on : ∀ {L : List (Int × Int)} {now : Int} {k : Nat}, k < L.length → k ≤ dueN L now → (L.getD k (0, 0)).2 ≤ now → k + 1 ≤ dueN L now
  | [], now, k, h, _, _ => by simp at h
  | e :: L, now, 0, _, _, h => by
    unfold dueN
    have : e.2 ≤ now := by simpa using h
    simp [this]
  | e :: L, now, k + 1, h, hk, hn => by
    unfold dueN at hk ⊢
    by_cases he : e.2 ≤ now
    · simp only [List.takeWhile_cons, he, decide_true, if_true, List.length_cons] at hk ⊢
      have := due_on (L := L) (now := now) (k := k) (by simpa using h) (by unfold dueN; omega) (by simpa using hn)
      unfold dueN at this
      omega
    · simp [he] at hk
def idsOf (L : List (Int × Int)) : List Int := L.map Prod.fst
theorem ids_take_succ {L : List (Int × Int)} {k : Nat} (hk : k < L.length) : idsOf (L.take (k + 1)) = idsOf (L.take k) ++ [(L.getD k (0, 0)).1] := by
  unfold idsOf
  rw [List.take_succ_eq_append_getElem hk, List.map_append]
  congr 1
  simp [List.getElem?_eq_getElem hk]
set_option maxRecDepth 100000 in
theorem until_in (p : Option Addr) (now : Int) (w : World) :
    Calls Try.prog 31 #[.pointer p, .int .i64 now] w fun e w' => e = .returned (.func (.func 46) #[] #[.pointer (some ⟨w.heap.size, 0, none⟩), .pointer (some ⟨w.heap.size + 1, 0, none⟩)]) ∧
      (w.alloc (.cells #[.pointer p] 24)).alloc (.cells #[.int .i64 now] 2) = w' := by
  go_enter Try.func31, Try.ntmps31
  go_wp2
  go_ret
  exact ⟨rfl, rfl⟩
theorem IsQ.keepn {n₀ : Nat} {S : List Nat} {w w' : World} {b : Nat} {v : Value} {L : List (Int × Int)} (h : IsQ w b v L) (k : Keepn n₀ S w w') (hb : b < n₀) (hbS : b ∉ S) (hv : ∀ x, v.ownBlock = some x → x < n₀ ∧ x ∉ S) : IsQ w' b v L := by
  refine ⟨h.blk.keepn k hb hbS, ?_⟩
  rcases h.own with h | ⟨g, cap, rfl, h0, hr⟩
  · exact .inl h
  · obtain ⟨cur, h1, h2⟩ := hr.row
    exact .inr ⟨g, cap, rfl, h0, ⟨cur, h1.keepn k (hv g rfl).1 (hv g rfl).2, h2⟩, hr.len, hr.cap_⟩

set_option maxRecDepth 1000000 in
set_option maxHeartbeats 2000000 in
theorem until1_in (n : Nat) (hn : 1 ≤ n) (l b Bq Bn n₀ : Nat) (now : Int) (S : List Nat) (v : Value) (L : List (Int × Int)) (J Jx : List Int → World → Prop) (hJa : ∀ pre W o, J pre W → J pre (World.alloc W o))
    (hY : ∀ pre x W, J pre W → pre.length < L.length → YieldAt Fence.wide (n - 1) Try.prog l #[.int .i64 x] W fun e W' =>
      (e = .returned (.bool true) ∧ J (pre ++ [x]) W' ∧ Keepn n₀ S W W') ∨ (e = .returned (.bool false) ∧ Jx (pre ++ [x]) W'))
    (hb : b < n₀) (hv : ∀ x, v.ownBlock = some x → x < n₀ ∧ x ∉ S) (hBq : Bq < n₀) (hBn : Bn < n₀) (hbS : b ∉ S) (hqS : Bq ∉ S) (hnS : Bn ∉ S) (hm : L.length ≤ 1000000)
    (W : World) (hn0 : n₀ ≤ W.heap.size) (cq : Blk W Bq 24 #[.pointer (some ⟨b, 0, none⟩)]) (cn : Blk W Bn 2 #[.int .i64 now]) (hQ : IsQ W b v L) (h0 : J [] W) :
    CallsIn Fence.wide n Try.prog 46 #[.func (.yield l) #[] #[], .pointer (some ⟨Bq, 0, none⟩), .pointer (some ⟨Bn, 0, none⟩)] W fun e W' => (∃ v, e = .returned v) ∧
      ((∃ ys, ys = idsOf (L.take (dueN L now)) ∧ J ys W') ∨ (∃ pre, pre <+: idsOf (L.take (dueN L now)) ∧ Jx pre W')) := by
  refine callsIn_of_wp Try.func46 rfl trivial ?_ rfl
  simp only [Try.ntmps46, List.size_toArray, List.length_cons, List.length_nil, Nat.reduceAdd, Nat.reduceSub, Array.replicate_succ, Array.replicate_zero, List.push_toArray, List.append_toArray, List.nil_append, List.cons_append]
  have hM := Lib.hid (valid_yes hQ.blk)
  have cqc : W.cell? ⟨Bq, 0, none⟩ = some (.pointer (some ⟨b, 0, none⟩)) := cq.cellAt 0 _ rfl
  have cbc := hQ.blk.cellAt 1 _ rfl
  obtain ⟨a0, c0, rfl⟩ := hQ.own.shape
  have HCN := Lib.hid cn
  have HQ := Lib.hid hQ
  have HY := Lib.hid hY
  have HJA := Lib.hid hJa
  have hdl := dueN_le L now
  clear cq cn hQ hY hJa
  gi_wp2_with (refine ⟨trivial, ?_⟩; gi_at_call 33; refine (callsIn_wide.2 hM.out).mono ?_; rintro e w' ⟨rfl, rfl⟩)
  clear cqc cbc
  gi_loopw [14] (fun i wr => ∃ k : Nat, i = .int .i64 k ∧ k ≤ dueN L now ∧ J (idsOf (L.take k)) wr ∧ Keepn n₀ S W wr) (fun i _ => L.length - (intOf i).toNat)
  case atStart => exact ⟨0, rfl, Nat.zero_le _, h0, Keepn.refl _ _ _⟩
  case round =>
    obtain ⟨k, rfl, hk, hJ, hkn⟩ := hrel
    by_cases hkl : k < L.length
    · rcases HQ.out.own with ⟨_, rfl⟩ | ⟨g, cap', he, _, hr⟩
      · simp at hkl
      · injection he with he1 he2 he3
        subst he1
        have hq := HQ.out.keepn hkn hb hbS hv
        rcases hq.own with ⟨h9, _⟩ | ⟨g', cap'', he', _, hr'⟩
        · cases h9
        · injection he' with he1' he2' he3'
          injection he1' with he1'
          injection he1' with he1'
          subst he1'
          obtain ⟨d0, d1⟩ := hr'.at_ hkl
          have cnc : wr.cell? ⟨Bn, 0, none⟩ = some (.int .i64 now) := (HCN.out.keepn hkn hBn hnS).cellAt 0 _ rfl
          have hhere := Lib.hid (due_here (now := now) hkl hk)
          have hon := Lib.hid (due_on (now := now) hkl hk)
          have hids := Lib.hid (ids_take_succ hkl)
          clear hr hr' hq he2 he3 he2' he3'
          generalize (L.getD k (0, 0)).1 = i at *
          generalize (L.getD k (0, 0)).2 = a at *
          have hBw : Bn < wr.heap.size := by have := hkn.size; omega
          have cnc2 : (wr.alloc (.cells #[.int .i64 i, .int .i64 a] 61)).cell? ⟨Bn, 0, none⟩ = some (.int .i64 now) := (((HCN.out.keepn hkn hBn hnS).alloc _)).cellAt 0 _ rfl
          by_cases ha : now < a
          · have e := hhere.out ha
            have HE := Lib.hid e
            clear e
            gi_wp2
            refine ⟨(fun f hf => by cases hf), ?_⟩
            gi_wp2
            refine bodyPost_ret (results_none rfl _ _ _) rfl ?_
            exact ⟨⟨_, rfl⟩, .inl ⟨_, rfl, by rw [HE.out]; exact HJA.out _ _ _ hJ⟩⟩
          · have hon2 := hon.out (by omega)
            have hJ2 := HJA.out _ _ (.cells #[.int .i64 i, .int .i64 a] 61) hJ
            have kA : Keepn n₀ S wr (wr.alloc (.cells #[.int .i64 i, .int .i64 a] 61)) := Keepn.of_keeps ((Keeps.refl [] wr).alloc _) (by have := hkn.size; omega) (by simp)
            obtain ⟨fn, tmps, assign, body, hy, hR⟩ := HY.out _ i _ hJ2 (by unfold idsOf; rw [List.length_map, List.length_take]; omega)
            have hSS := Lib.hid (hR.mono (fun e W' h => said_of (A := fun W' => J (idsOf (L.take k) ++ [i]) W' ∧ Keepn n₀ S (wr.alloc (.cells #[.int .i64 i, .int .i64 a] 61)) W') (B := fun W' => Jx (idsOf (L.take k) ++ [i]) W') h))
            clear hR
            gi_wp2
            refine hSS.out.mono ?_
            rintro e W' ⟨tt, rfl, hd⟩
            cases tt
            · gi_wp2
              refine bodyPost_ret (results_none rfl _ _ _) rfl ?_
              refine ⟨⟨_, rfl⟩, .inr ⟨_, ?_, hd.2 rfl⟩⟩
              rw [← hids.out]
              unfold idsOf
              refine List.IsPrefix.map _ ?_
              exact ⟨(L.take (dueN L now)).drop (k + 1), by
                have : L.take (k + 1) = (L.take (dueN L now)).take (k + 1) := by rw [List.take_take, Nat.min_eq_left hon2]
                rw [this, List.take_append_drop]⟩
            · have hd' := hd.1 rfl
              gi_wp2
              go_roundw
              case rel => exact ⟨k + 1, by go_num, hon2, by rw [hids.out]; exact hd'.1, (hkn.trans kA).trans hd'.2⟩
              case measure => simp [intOf]; omega
    · gi_wp2
      go_end0
      exact ⟨⟨_, rfl⟩, .inl ⟨_, rfl, by rw [show dueN L now = k by omega]; exact hJ⟩⟩
end Go.Proofs.Ytognnjaefaoefaa
