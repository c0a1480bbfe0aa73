/- The contracts of all, Check, places, and the two questions that are asked of runes. No condition. -/
import Derived.Test.YtkbelhhimllfnaaPlain
import Derived.Test.YtkbelhhimllfnaaKit
import Derived.Test.YtkbelhhimllfnaaShelf
import Derived.Test.YtkbelhhimllfnaaBuild
namespace Go.Proofs.Ytkbelhhimllfnaa
open Go.RowKit Go.Lib

set_option maxRecDepth 100000 in
theorem Check1_ok (r : Nat) (w : World) : Calls Try.prog 29 #[.int .i32 r] w fun e w' => e = .returned (.bool (fine r)) ∧ w = w' := by
  by_cases h : 32 ≤ r
  · by_cases h' : r = 127
    · subst h'
      go_enter Try.func29, Try.ntmps29
      go_wp2
      go_ret
      exact ⟨rfl, rfl⟩
    · have e : fine r = true := by simp [fine, h, h']
      rw [e]
      have h1 : ((r : Int) != 127) = true := by simp; omega
      go_enter Try.func29, Try.ntmps29
      go_wp2
      go_ret
      exact ⟨rfl, rfl⟩
  · have e : fine r = false := by simp [fine, h]
    rw [e]
    go_enter Try.func29, Try.ntmps29
    go_wp2
    go_ret
    exact ⟨rfl, rfl⟩

set_option maxRecDepth 100000 in
theorem places_ok (r : Nat) (w : World) : Calls Try.prog 33 #[.int .i32 r] w fun e w' => e = .returned (.int .i64 (placesOf r)) ∧ w = w' := by
  by_cases h : r < 4352
  · have e : placesOf r = 1 := by simp [placesOf, h]
    rw [e]
    go_enter Try.func33, Try.ntmps33
    go_wp2
    go_ret
    exact ⟨rfl, rfl⟩
  · have e : placesOf r = 2 := by simp [placesOf, h]
    rw [e]
    go_enter Try.func33, Try.ntmps33
    go_wp2
    go_ret
    exact ⟨rfl, rfl⟩


/-- What all answers: how many runes, and whether it is so. -/
def allTuple (o : Option Nat) : Value := match o with
  | some n => .tuple #[.int .i64 n, .bool true]
  | none => .tuple #[.int .i64 0, .bool false]

theorem drop_ne {s : ByteArray} {pos : Nat} (h : pos < s.size) : s.data.toList.drop pos ≠ [] := by
  intro h0
  have := congrArg List.length h0
  rw [List.length_drop, ← size_eq] at this
  simp at this
  omega
theorem sub_list (s : ByteArray) (pos : Nat) : ((s.extract pos s.size).data.toList) = s.data.toList.drop pos := by
  cases s with
  | mk d =>
    have : (ByteArray.extract ⟨d⟩ pos (ByteArray.size ⟨d⟩)).data = d.extract pos d.size := by
      rw [ByteArray.data_extract]; rfl
    rw [this, Array.toList_extract]
    simp [List.extract]
    try exact List.take_of_length_le (by simp)
theorem drop_end {s : ByteArray} {pos : Nat} (h : ¬ pos < s.size) : s.data.toList.drop pos = [] := List.drop_eq_nil_of_le (by rw [← size_eq]; omega)
theorem iterAt_keeps {w wr : World} {S : List Nat} (h : Keeps S w wr) {k : Nat} (hk : w.heap.size ≤ k) (s : ByteArray) (pos : Nat) : Keeps S w (wr.iterAt k s pos) :=
  ⟨h.os, h.tape, h.output, by rw [iterAt_size]; exact h.size, fun i hi hn => (iterAt_other wr k i s pos (by omega)).trans (h.block i hi hn)⟩

set_option maxRecDepth 100000 in
set_option maxHeartbeats 4000000 in
theorem all_walk (g : Nat) (eg : ∀ args w, (callFunc g args).run Try.prog w = .ok (.enter g args) w) (has : Nat → Bool) (hh : ∀ (r : Nat) W, Sc r → Calls Try.prog g #[.int .i32 r] W fun e W' => e = .returned (.bool (has r)) ∧ Keeps [] W W') (s : ByteArray) (w : World) (hs : s.size ≤ 1000) :
    Calls Try.prog 28 #[.string s, .func (.func g) #[] #[]] w fun e w' => e = .returned (allTuple (allOf has s.data.toList)) ∧ Keeps [] w w' := by
  have HH := Lib.hid hh
  clear hh
  go_enter Try.func28, Try.ntmps28
  go_wp2
  go_loopw [6] (fun n wr => ∃ (pos k : Nat), n = .int .i64 k ∧ wr.heap[w.heap.size]? = some (.stringIter s pos) ∧ Keeps [] w wr ∧ k ≤ pos ∧ allOf has s.data.toList = (allOf has (s.data.toList.drop pos)).map (· + k)) (fun _ wr => s.size - wr.iterPos w.heap.size)
  case atStart =>
    refine ⟨0, 0, rfl, ?_, (Keeps.refl _ _).alloc _, Nat.le_refl _, by simp⟩
    have := World.iter_heap w s 0
    simpa using this
  case round =>
    obtain ⟨pos, k, rfl, hit, hk, hkp, hall⟩ := hrel
    have hsz : w.heap.size < wr.heap.size := (Array.getElem?_eq_some_iff.1 hit).1
    by_cases hp : pos < s.size
    · have hnx : ∀ ty, (Instr.next (.pointer (some ⟨w.heap.size, 0, none⟩)) true ty).run Try.prog wr = _ := fun ty => Lib.run_next_any_at wr w.heap.size s pos ty hit hp
      have hit2 := Lib.iterAt_heap wr w.heap.size s pos (pos + (Utf8.decode s pos).2) hit
      have hk2 := iterAt_keeps hk (Nat.le_refl _) s (pos + (Utf8.decode s pos).2)
      have hL := decodeL_drop s pos
      have hne := drop_ne hp
      have hwd := decodeL_width (s.data.toList.drop pos)
      have hsc := decode_sc (s.data.toList.drop pos)
      have hA := Lib.hid hall
      clear hall
      rw [hL] at hwd hsc
      have hsc' : (Utf8.decode s pos).1 ≤ 1114111 := by unfold Sc at hsc; omega
      have hsub := sub_list s pos
      have HP := Lib.hid (Try.strings_HasPrefix (s.extract pos s.size) ⟨#[239, 191, 189]⟩)
      by_cases hb : decodeL (s.data.toList.drop pos) = (65533, 1)
      · have hr : (Utf8.decode s pos).1 = 65533 := by rw [← hL, hb]
        have hpf : Lib.hasPrefix (s.extract pos s.size).data.toList [239, 191, 189] = false := by
          rw [hsub, fffd_prefix _ (by rw [hL, hr])]
          simp [hb]
        rw [allOf_bad has hne hb] at hA
        generalize hq : wr.iterAt w.heap.size s (pos + (Utf8.decode s pos).2) = W2 at *
        have hnx' : ∀ ty, (Instr.next (.pointer (some ⟨w.heap.size, 0, none⟩)) true ty).run Try.prog wr = .ok (.tuple #[.bool true, .int .i64 pos, .int .i32 65533]) W2 := fun ty => by rw [hnx ty, hr]; rfl
        clear hnx hq
        go_wp2_with fail
        refine (HP.out _).mono ?_
        rintro e W' ⟨rfl, rfl⟩
        rw [hpf]
        go_wp2_with fail
        go_ret2
        rw [hA.out]
        exact ⟨rfl, hk2⟩
      · have HC := Lib.hid (HH.out (Utf8.decode s pos).1)
        have hno := allOf_no has hne hb
        have hye := allOf_step has hne hb
        rw [hL] at hno hye
        have HNO := Lib.hid hno
        have HYE := Lib.hid hye
        clear hno hye
        generalize hW2 : wr.iterAt w.heap.size s (pos + (Utf8.decode s pos).2) = W2 at *
        have hsz2 : w.heap.size < W2.heap.size := (Array.getElem?_eq_some_iff.1 hit2).1
        clear hW2
        by_cases hr : (Utf8.decode s pos).1 = 65533
        · have hpf : Lib.hasPrefix (s.extract pos s.size).data.toList [239, 191, 189] = true := by
            rw [hsub, fffd_prefix _ (by rw [hL, hr])]
            simp [hb]
          have HR := Lib.hid hr
          have hnx' : ∀ ty, (Instr.next (.pointer (some ⟨w.heap.size, 0, none⟩)) true ty).run Try.prog wr = .ok (.tuple #[.bool true, .int .i64 pos, .int .i32 65533]) W2 := fun ty => by rw [hnx ty, hr]; rfl
          clear hnx
          rw [hr] at HNO HYE HC
          clear hr
          go_wp2_with fail
          refine (HP.out _).mono ?_
          rintro e W' ⟨rfl, rfl⟩
          rw [hpf]
          go_wp2_with fail
          refine (HC.out _ (by decide)).mono ?_
          rintro e W' ⟨rfl, hk3⟩
          have hit3 := (hk3.block w.heap.size hsz2 (by simp)).trans hit2
          cases hh : has 65533 with
          | false =>
            have HE := Lib.hid (HNO.out hh)
            clear hh
            go_wp2_with fail
            go_ret2
            rw [hA.out, HE.out]
            exact ⟨rfl, hk2.step hk3 (by simp)⟩
          | true =>
            have HE := Lib.hid (HYE.out hh)
            clear hh
            go_wp2_with fail
            go_roundw
            case rel =>
              refine ⟨pos + (Utf8.decode s pos).2, k + 1, by go_num, hit3, hk2.step hk3 (by simp), by omega, ?_⟩
              rw [hA.out, HE.out, Option.map_map, List.drop_drop]
              congr 1
              funext x
              simp only [Function.comp_apply]
              omega
            case measure =>
              simp only [World.iterPos, hit3, hit]
              omega
        · have hr1 : (((Utf8.decode s pos).1 : Int) == 65533) = false := by simp; omega
          clear hr
          go_wp2_with fail
          refine (HC.out _ hsc).mono ?_
          rintro e W' ⟨rfl, hk3⟩
          have hit3 := (hk3.block w.heap.size hsz2 (by simp)).trans hit2
          cases hh : has (Utf8.decode s pos).1 with
          | false =>
            have HE := Lib.hid (HNO.out hh)
            clear hh
            go_wp2_with fail
            go_ret2
            rw [hA.out, HE.out]
            exact ⟨rfl, hk2.step hk3 (by simp)⟩
          | true =>
            have HE := Lib.hid (HYE.out hh)
            clear hh
            go_wp2_with fail
            go_roundw
            case rel =>
              refine ⟨pos + (Utf8.decode s pos).2, k + 1, by go_num, hit3, hk2.step hk3 (by simp), by omega, ?_⟩
              rw [hA.out, HE.out, Option.map_map, List.drop_drop]
              congr 1
              funext x
              simp only [Function.comp_apply]
              omega
            case measure =>
              simp only [World.iterPos, hit3, hit]
              omega
    · have hnx : ∀ ty, (Instr.next (.pointer (some ⟨w.heap.size, 0, none⟩)) true ty).run Try.prog wr = _ := fun ty => Lib.run_next_end_at wr w.heap.size s pos ty hit hp
      go_wp2
      go_ret2
      rw [drop_end hp, allOf_nil] at hall
      rw [hall]
      exact ⟨by simp [allTuple], hk⟩

set_option maxRecDepth 100000 in
theorem Check_ok (s : ByteArray) (w : World) : Calls Try.prog 13 #[.string s] w fun e w' => e = .returned (.int .i64 (tagErr s.data.toList)) ∧ Keeps [] w w' := by
  by_cases hs : s.size ≤ 96
  · have HA := (all_walk 29 (enters_of Try.func29 (by kernel_rfl) rfl) fine (fun r W _ => (Check1_ok r W).mono fun e W' h => ⟨h.1, by rw [← h.2]; exact Keeps.refl _ _⟩) s w (by omega))
    cases ha : allOf fine s.data.toList with
    | none =>
      have HT := Lib.hid (tagErr_none ha)
      rw [ha] at HA
      have HA := Lib.hid (show Calls Try.prog 28 #[.string s, .func (.func 29) #[] #[]] w fun e w' => e = .returned (.tuple #[.int .i64 0, .bool false]) ∧ Keeps [] w w' from HA)
      go_enter Try.func13, Try.ntmps13
      go_wp2_with fail
      refine HA.out.mono ?_
      rintro e w' ⟨rfl, hk⟩
      go_wp2_with fail
      go_ret
      rw [HT.out]
      exact ⟨rfl, hk⟩
    | some n =>
      have HT := Lib.hid (tagErr_some ha)
      rw [ha] at HA
      have HA := Lib.hid (show Calls Try.prog 28 #[.string s, .func (.func 29) #[] #[]] w fun e w' => e = .returned (.tuple #[.int .i64 n, .bool true]) ∧ Keeps [] w w' from HA)
      clear ha
      by_cases h1 : 1 ≤ n
      · by_cases h2 : n ≤ 24
        · rw [if_pos ⟨h1, h2⟩] at HT
          go_enter Try.func13, Try.ntmps13
          go_wp2_with fail
          refine HA.out.mono ?_
          rintro e w' ⟨rfl, hk⟩
          go_wp2_with fail
          go_ret
          rw [HT.out]
          exact ⟨rfl, hk⟩
        · rw [if_neg (by omega)] at HT
          go_enter Try.func13, Try.ntmps13
          go_wp2_with fail
          refine HA.out.mono ?_
          rintro e w' ⟨rfl, hk⟩
          go_wp2_with fail
          go_ret
          rw [HT.out]
          exact ⟨rfl, hk⟩
      · rw [if_neg (by omega)] at HT
        go_enter Try.func13, Try.ntmps13
        go_wp2_with fail
        refine HA.out.mono ?_
        rintro e w' ⟨rfl, hk⟩
        go_wp2_with fail
        go_ret
        rw [HT.out]
        exact ⟨rfl, hk⟩
  · have hT := tagErr_long (l := s.data.toList) (by rw [← size_eq]; omega)
    rw [hT]
    clear hT
    go_enter Try.func13, Try.ntmps13
    go_wp2_with fail
    go_ret
    exact ⟨rfl, Keeps.refl _ _⟩
end Go.Proofs.Ytkbelhhimllfnaa
