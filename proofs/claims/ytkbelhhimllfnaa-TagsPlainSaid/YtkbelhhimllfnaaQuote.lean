/- The contracts of Quote, Width and Cut. No condition on the text. -/
import Derived.Test.YtkbelhhimllfnaaAll
namespace Go.Proofs.Ytkbelhhimllfnaa
open Go.RowKit Go.Lib

/-- Behind a call that answers a text and an error, and changes nothing that was there. -/
def StrErr (l : List UInt8) (er : Int) (w : World) (e : Ending) (w' : World) : Prop := e = .returned (.tuple #[.string ⟨l.toArray⟩, .int .i64 er]) ∧ Keeps [] w w'
def IntErr (n er : Int) (w : World) (e : Ending) (w' : World) : Prop := e = .returned (.tuple #[.int .i64 n, .int .i64 er]) ∧ Keeps [] w w'

/-- Where a rune of a text stands. -/
theorem rune_at {s : ByteArray} {done rest : List Nat} {r : Nat} (h : s.data.toList = encs (done ++ r :: rest)) (hs : Sc r) : (encs done).length < s.size ∧ Utf8.decode s (encs done).length = (r, (enc r).length) := by
  have hl := enc_len r
  refine ⟨?_, ?_⟩
  · rw [size_eq, h, encs_append, encs_cons]
    simp only [List.length_append]
    omega
  · rw [← decodeL_drop, h, encs_append, List.drop_left, encs_cons, decode_enc r hs]
theorem text_end {s : ByteArray} {rs : List Nat} (h : s.data.toList = encs rs) : ¬ (encs rs).length < s.size := by rw [size_eq, h]; omega
theorem encs_snoc (done : List Nat) (r : Nat) : encs (done ++ [r]) = encs done ++ enc r := by rw [encs_append, encs_cons]; simp
theorem bytes_snoc (acc : List UInt8) (b : UInt8) : byteCells (acc ++ [b]) = byteCells acc ++ [.int .u8 b.toNat] := by rw [byteCells_append]; rfl

theorem Width_no (s : ByteArray) (h : tagErr s.data.toList ≠ 0) (w : World) : Calls Try.prog 16 #[.string s] w (IntErr 0 16 w) := by
  have hT : tagErr s.data.toList = 16 := (tagErr_or _).resolve_left h
  have HC := Check_ok s w
  rw [hT] at HC
  have HC := Lib.hid HC
  clear h hT
  go_enter Try.func16, Try.ntmps16
  go_wp2_with fail
  refine HC.out.mono ?_
  rintro e w' ⟨rfl, hk⟩
  go_wp2_with fail
  go_ret2
  exact ⟨rfl, hk⟩

set_option maxRecDepth 100000 in
set_option maxHeartbeats 4000000 in
theorem Width_ok (s : ByteArray) (rs : List Nat) (h : TagOf rs s.data.toList) (w : World) : Calls Try.prog 16 #[.string s] w (IntErr (widthOf rs) 0 w) := by
  have hT : tagErr s.data.toList = 0 := tagErr_zero.2 h.isTag
  have HC := Check_ok s w
  rw [hT] at HC
  have HC := Lib.hid HC
  have HL := h.len
  rw [← size_eq] at HL
  have HT := Lib.hid h.text
  have HS := Lib.hid h.sc
  have hw := (widthOf_le rs).2
  have hm := h.most
  clear hT h
  go_enter Try.func16, Try.ntmps16
  go_wp2_with fail
  refine HC.out.mono ?_
  rintro e w1 ⟨rfl, hk1⟩
  clear HC
  go_wp2_with fail
  go_loopw [5] (fun n wr => ∃ (done rest : List Nat), rs = done ++ rest ∧ n = .int .i64 (widthOf done) ∧ wr.heap[w1.heap.size]? = some (.stringIter s (encs done).length) ∧ Keeps [] w1 wr) (fun _ wr => s.size - wr.iterPos w1.heap.size)
  case atStart =>
    refine ⟨[], rs, rfl, rfl, ?_, (Keeps.refl _ _).alloc _⟩
    have := World.iter_heap w1 s 0
    simpa using this
  case round =>
    obtain ⟨done, rest, hd, rfl, hit, hk⟩ := hrel
    have HD := Lib.hid hd
    have hW : widthOf rs = widthOf done + widthOf rest := by rw [hd, widthOf_append]
    clear hd
    cases rest with
    | nil =>
      have hp : ¬ (encs done).length < s.size := text_end (by rw [HT.out, HD.out, List.append_nil])
      have hnx : ∀ ty, (Instr.next (.pointer (some ⟨w1.heap.size, 0, none⟩)) true ty).run Try.prog wr = _ := fun ty => Lib.run_next_end_at wr w1.heap.size s _ ty hit hp
      have HE := Lib.hid (show widthOf done = widthOf rs by rw [hW]; simp)
      clear hW
      go_wp2_with fail
      go_ret2
      rw [HE.out]
      exact ⟨rfl, hk1.trans hk⟩
    | cons r rest =>
      obtain ⟨hp, hdec⟩ := rune_at (by rw [HT.out, HD.out]) (HS.out r (by rw [HD.out]; simp))
      have hnx : ∀ ty, (Instr.next (.pointer (some ⟨w1.heap.size, 0, none⟩)) true ty).run Try.prog wr = .ok (.tuple #[.bool true, .int .i64 (encs done).length, .int .i32 r]) (wr.iterAt w1.heap.size s ((encs done).length + (enc r).length)) := fun ty => by
        rw [Lib.run_next_any_at wr w1.heap.size s _ ty hit hp, hdec]
      have hit2 := Lib.iterAt_heap wr w1.heap.size s _ ((encs done).length + (enc r).length) hit
      have hk2 := iterAt_keeps hk (Nat.le_refl _) s ((encs done).length + (enc r).length)
      have hl := enc_len r
      rw [widthOf_cons] at hW
      have hpl := placesOf_le r
      have HP := Lib.hid (places_ok r)
      obtain ⟨q, hq⟩ : ∃ q, placesOf r = q := ⟨_, rfl⟩
      rw [hq] at hpl HP hW
      have HQ := Lib.hid hq
      have HWd := Lib.hid hW
      have hwb : widthOf done + q ≤ 48 := by omega
      clear hW hdec hq
      go_wp2_with fail
      refine (HP.out _).mono ?_
      rintro e W' ⟨rfl, rfl⟩
      go_wp2_with fail
      go_roundw
      case rel =>
        refine ⟨done ++ [r], rest, by rw [HD.out]; simp, ?_, ?_, hk2⟩
        · rw [widthOf_append, widthOf_cons, HQ.out]; go_num
        · rw [encs_snoc, List.length_append]; exact hit2
      case measure =>
        simp only [World.iterPos, hit2, hit]
        omega

theorem ba_eq {s : ByteArray} {l : List UInt8} (h : s.data.toList = l) : s = ⟨l.toArray⟩ := by
  subst h
  rfl
theorem take_list (s : ByteArray) (pos : Nat) : (s.extract 0 pos).data.toList = s.data.toList.take pos := by
  cases s with
  | mk d =>
    have : (ByteArray.extract ⟨d⟩ 0 pos).data = d.extract 0 pos := by rw [ByteArray.data_extract]
    rw [this, Array.toList_extract]
    simp [List.extract]
theorem pre_text {s : ByteArray} {done rest : List Nat} (h : s.data.toList = encs (done ++ rest)) : s.extract 0 (encs done).length = ⟨(encs done).toArray⟩ :=
  ba_eq (by rw [take_list, h, encs_append, List.take_left])

theorem Cut_no (s : ByteArray) (n : Int) (h : tagErr s.data.toList ≠ 0) (w : World) : Calls Try.prog 17 #[.string s, .int .i64 n] w (StrErr [] 16 w) := by
  have hT : tagErr s.data.toList = 16 := (tagErr_or _).resolve_left h
  have HC := Check_ok s w
  rw [hT] at HC
  have HC := Lib.hid HC
  clear h hT
  go_enter Try.func17, Try.ntmps17
  go_wp2_with fail
  refine HC.out.mono ?_
  rintro e w' ⟨rfl, hk⟩
  go_wp2_with fail
  go_ret2
  exact ⟨rfl, hk⟩
theorem Cut_neg (s : ByteArray) (n : Int) (h : tagErr s.data.toList = 0) (hn : n < 0) (w : World) : Calls Try.prog 17 #[.string s, .int .i64 n] w (StrErr [] 2 w) := by
  have HC := Check_ok s w
  rw [h] at HC
  have HC := Lib.hid HC
  clear h
  go_enter Try.func17, Try.ntmps17
  go_wp2_with fail
  refine HC.out.mono ?_
  rintro e w' ⟨rfl, hk⟩
  go_wp2_with fail
  go_ret2
  exact ⟨rfl, hk⟩

set_option maxRecDepth 100000 in
set_option maxHeartbeats 4000000 in
theorem Cut_ok (s : ByteArray) (n : Int) (rs : List Nat) (h : TagOf rs s.data.toList) (hn : 0 ≤ n) (hn2 : n ≤ 9223372036854775807) (w : World) : Calls Try.prog 17 #[.string s, .int .i64 n] w (StrErr (encs (cutOf rs n)) 0 w) := by
  have hT : tagErr s.data.toList = 0 := tagErr_zero.2 h.isTag
  have HC := Check_ok s w
  rw [hT] at HC
  have HC := Lib.hid HC
  have HL := h.len
  rw [← size_eq] at HL
  have HT := Lib.hid h.text
  have HS := Lib.hid h.sc
  clear hT h
  go_enter Try.func17, Try.ntmps17
  go_wp2_with fail
  refine HC.out.mono ?_
  rintro e w1 ⟨rfl, hk1⟩
  clear HC
  go_wp2_with fail
  go_loopw [1] (fun x wr => ∃ (done rest : List Nat) (c : Int), rs = done ++ rest ∧ x = .int .i64 c ∧ 0 ≤ c ∧ c ≤ n ∧ cutOf rs n = done ++ cutOf rest c ∧ wr.heap[w1.heap.size]? = some (.stringIter s (encs done).length) ∧ Keeps [] w1 wr) (fun _ wr => s.size - wr.iterPos w1.heap.size)
  case atStart =>
    refine ⟨[], rs, n, rfl, rfl, hn, Int.le_refl _, rfl, ?_, (Keeps.refl _ _).alloc _⟩
    have := World.iter_heap w1 s 0
    simpa using this
  case round =>
    obtain ⟨done, rest, c, hd, rfl, hc0, hcn, hcut, hit, hk⟩ := hrel
    have HD := Lib.hid hd
    have HCut := Lib.hid hcut
    clear hd hcut
    cases rest with
    | nil =>
      have hp : ¬ (encs done).length < s.size := text_end (by rw [HT.out, HD.out, List.append_nil])
      have hnx : ∀ ty, (Instr.next (.pointer (some ⟨w1.heap.size, 0, none⟩)) true ty).run Try.prog wr = _ := fun ty => Lib.run_next_end_at wr w1.heap.size s _ ty hit hp
      go_wp2_with fail
      go_ret2
      refine ⟨?_, hk1.trans hk⟩
      rw [HCut.out]
      have : s = ⟨(encs (done ++ cutOf [] c)).toArray⟩ := ba_eq (by rw [HT.out, HD.out]; rfl)
      rw [← this]
      rfl
    | cons r rest =>
      have hdr := HT.out
      rw [HD.out] at hdr
      obtain ⟨hp, hdec⟩ := rune_at hdr (HS.out r (by rw [HD.out]; simp))
      have hnx : ∀ ty, (Instr.next (.pointer (some ⟨w1.heap.size, 0, none⟩)) true ty).run Try.prog wr = .ok (.tuple #[.bool true, .int .i64 (encs done).length, .int .i32 r]) (wr.iterAt w1.heap.size s ((encs done).length + (enc r).length)) := fun ty => by
        rw [Lib.run_next_any_at wr w1.heap.size s _ ty hit hp, hdec]
      have hpre := pre_text (s := s) (done := done) (rest := r :: rest) hdr
      have hit2 := Lib.iterAt_heap wr w1.heap.size s _ ((encs done).length + (enc r).length) hit
      have hk2 := iterAt_keeps hk (Nat.le_refl _) s ((encs done).length + (enc r).length)
      have hl := enc_len r
      have hpl := placesOf_le r
      have HP := Lib.hid (places_ok r)
      have hstep : cutOf (r :: rest) c = if c - placesOf r < 0 then [] else r :: cutOf rest (c - placesOf r) := rfl
      obtain ⟨q, hq⟩ : ∃ q, placesOf r = q := ⟨_, rfl⟩
      rw [hq] at hpl HP hstep
      clear hdec hq hdr
      have HPre := Lib.hid hpre
      clear hpre
      by_cases hcq : c - q < 0
      · rw [if_pos hcq] at hstep
        have HSt := Lib.hid hstep
        clear hstep
        go_wp2_with fail
        refine (HP.out _).mono ?_
        rintro e W' ⟨rfl, rfl⟩
        go_wp2_with fail
        go_ret2
        refine ⟨?_, hk1.trans hk2⟩
        rw [HCut.out, HSt.out, List.append_nil]
        exact congrArg (fun x => Ending.returned (.tuple #[.string x, .int .i64 0])) HPre.out
      · rw [if_neg hcq] at hstep
        have HSt := Lib.hid hstep
        clear hstep
        go_wp2_with fail
        refine (HP.out _).mono ?_
        rintro e W' ⟨rfl, rfl⟩
        go_wp2_with fail
        go_roundw
        case rel =>
          refine ⟨done ++ [r], rest, c - q, by rw [HD.out]; simp, ?_, by omega, by omega, by rw [HCut.out, HSt.out]; simp, ?_, hk2⟩
          · go_num
          · rw [encs_snoc, List.length_append]; exact hit2
        case measure =>
          simp only [World.iterPos, hit2, hit]
          omega
end Go.Proofs.Ytkbelhhimllfnaa
