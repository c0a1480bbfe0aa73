/- The contract of Quote. No condition on the text. -/
import Derived.Test.YtkbelhhimllfnaaQuote
namespace Go.Proofs.Ytkbelhhimllfnaa
open Go.RowKit Go.Lib

theorem Quote_no (s : ByteArray) (h : tagErr s.data.toList ≠ 0) (w : World) : Calls Try.prog 15 #[.string s] w (StrErr [] 16 w) := by
  have hT : tagErr s.data.toList = 16 := (tagErr_or _).resolve_left h
  have HC := Check_ok s w
  rw [hT] at HC
  have HC := Lib.hid HC
  clear h hT
  go_enter Try.func15, Try.ntmps15
  go_wp2_with fail
  refine HC.out.mono ?_
  rintro e w' ⟨rfl, hk⟩
  go_wp2_with fail
  go_ret2
  exact ⟨rfl, hk⟩

theorem below_keeps {B : Nat} {a b : World} (h : Below B a b) (hB : a.heap.size ≤ B) : Keeps [] a b := ⟨h.os, h.tape, h.output, h.size, fun i hi _ => h.block i (by omega)⟩

set_option maxRecDepth 100000 in
set_option maxHeartbeats 4000000 in
theorem Quote_ok (s : ByteArray) (rs : List Nat) (h : TagOf rs s.data.toList) (w : World) : Calls Try.prog 15 #[.string s] w (StrErr (quoteOf s.data.toList) 0 w) := by
  have hT : tagErr s.data.toList = 0 := tagErr_zero.2 h.isTag
  have HC := Check_ok s w
  rw [hT] at HC
  have HC := Lib.hid HC
  have HL := h.len
  have HQ := Lib.hid (show quoteOf s.data.toList = 34 :: (escs (encs rs) ++ [34]) by rw [h.text]; rfl)
  have HB := escs_len (encs rs)
  rw [← h.text] at HB
  rw [← size_eq] at HL HB
  have HT := Lib.hid h.text
  have HS := Lib.hid h.sc
  rw [h.text] at HB
  clear hT h
  go_enter Try.func15, Try.ntmps15
  go_wp2_with fail
  refine HC.out.mono ?_
  rintro e w1 ⟨rfl, hk1⟩
  clear HC
  obtain ⟨B, hB⟩ : ∃ B, w1.heap.size = B := ⟨_, rfl⟩
  have hI0 : IsBuilderF 47 5 B B (byteCells []) (w1.alloc (.cells #[.pointer none, .slice none 0 0] 47)) := by
    rw [← hB]; exact Lib.IsBuilderF.of (Lib.fresh_isBuilder 47 5 w1)
  have HI0 := Lib.hid (fun W (hW : W = w1.alloc (.cells #[.pointer none, .slice none 0 0] 47)) => Try.Builder_WriteByte_k B B (byteCells []) 34 W (by rw [hW]; exact hI0) (by decide) (by rw [hW]; simp; omega))
  have hb0 : Below B w1 (w1.alloc (.cells #[.pointer none, .slice none 0 0] 47)) := (Below.refl _ w1).alloc (by omega) _
  have hk0 := below_keeps hb0 (by omega)
  clear hI0 hb0
  go_wp2_with fail
  refine (HI0.out _ rfl).mono ?_
  rintro e W1 ⟨rfl, h1, b1, k1⟩
  clear HI0
  have hI1 : IsBuilderF 47 5 B B (byteCells [34]) W1 := Or.inr h1
  have hsz1 : B < W1.heap.size := by have := b1.size; simp at this; omega
  have hb1 : Below B w1 W1 := ((Below.refl _ w1).alloc (by omega) _).trans b1
  clear h1 b1 k1 hk0
  obtain ⟨k, hk⟩ : ∃ k, W1.heap.size = k := ⟨_, rfl⟩
  go_wp2_with fail
  go_loopw [] (fun wr => ∃ (done rest : List Nat), rs = done ++ rest ∧ IsBuilderF 47 5 B B (byteCells (34 :: escs (encs done))) wr ∧ wr.heap[k]? = some (.stringIter s (encs done).length) ∧ Below B w1 wr) (fun wr => s.size - wr.iterPos k)
  case atStart =>
    refine ⟨[], rs, rfl, hI1.alloc _, ?_, hb1.alloc (by omega) _⟩
    have := World.iter_heap W1 s 0
    rw [hk] at this
    simpa using this
  case round =>
    obtain ⟨done, rest, hd, hI, hit, hbw⟩ := hrel
    have HD := Lib.hid hd
    have hsz : k < wr.heap.size := (Array.getElem?_eq_some_iff.1 hit).1
    have hall : (34 :: escs (encs done)).length ≤ 200 := by
      have e1 := escs_len (encs done)
      have e2 : (encs done).length ≤ (encs rs).length := by rw [hd, encs_append, List.length_append]; omega
      rw [← HT.out, ← size_eq] at e2
      simp only [List.length_cons]
      omega
    clear hd
    cases rest with
    | nil =>
      have hp : ¬ (encs done).length < s.size := text_end (by rw [HT.out, HD.out, List.append_nil])
      have hnx : ∀ ty, (Instr.next (.pointer (some ⟨k, 0, none⟩)) true ty).run Try.prog wr = _ := fun ty => Lib.run_next_end_at wr k s _ ty hit hp
      have HW := Lib.hid (Try.Builder_WriteByte_k B B _ 34 wr hI (by rw [byteCells_length]; omega) (by omega))
      clear hI
      go_wp2_with fail
      refine HW.out.mono ?_
      rintro e W2 ⟨rfl, h2, b2, k2⟩
      have hI2 : IsBuilderF 47 5 B B (byteCells (34 :: (escs (encs done) ++ [34]))) W2 := by
        refine Or.inr ?_
        rw [show (34 :: (escs (encs done) ++ [34])) = (34 :: escs (encs done)) ++ [34] from rfl, bytes_snoc]
        exact h2
      have hsz2 : B ≤ W2.heap.size := by have := b2.size; omega
      have HStr := Lib.hid (Try.Builder_String_any_k B B _ W2 hI2 hsz2)
      clear hI2 h2 k2
      have hb2 := hbw.trans b2
      go_wp2_with fail
      refine HStr.out.mono ?_
      rintro e W3 ⟨rfl, h3, b3, k3⟩
      clear h3 k3
      go_wp2_with fail
      go_ret2
      rw [HQ.out, show rs = done by rw [HD.out, List.append_nil]]
      exact ⟨rfl, hk1.trans (below_keeps (hb2.trans b3) (by omega))⟩
    | cons r rest =>
      have hdr := HT.out
      rw [HD.out] at hdr
      have hsr := HS.out r (by rw [HD.out]; simp)
      obtain ⟨hp, hdec⟩ := rune_at hdr hsr
      have hnx : ∀ ty, (Instr.next (.pointer (some ⟨k, 0, none⟩)) true ty).run Try.prog wr = .ok (.tuple #[.bool true, .int .i64 (encs done).length, .int .i32 r]) (wr.iterAt k s ((encs done).length + (enc r).length)) := fun ty => by
        rw [Lib.run_next_any_at wr k s _ ty hit hp, hdec]
      have hl := enc_len r
      have hsr' : r ≤ 1114111 := by unfold Sc at hsr; omega
      have hE := escs_enc hsr
      have hit2 := Lib.iterAt_heap wr k s _ ((encs done).length + (enc r).length) hit
      have hb2 := Lib.below_iterAt hbw (k := k) (by omega) s ((encs done).length + (enc r).length)
      have hI2 := hI.iterAt hit ((encs done).length + (enc r).length)
      have hsz2 : k < (wr.iterAt k s ((encs done).length + (enc r).length)).heap.size := by rw [Lib.iterAt_size]; exact hsz
      generalize wr.iterAt k s ((encs done).length + (enc r).length) = W2 at *
      clear hdec hdr hI
      have hnext : (encs (done ++ [r])).length = (encs done).length + (enc r).length := by rw [encs_snoc, List.length_append]
      by_cases h2 : r = 34 ∨ r = 92
      · rw [if_pos h2] at hE
        have HE := Lib.hid hE
        clear hE
        have HW := Lib.hid (Try.Builder_WriteByte_k B B _ 92 W2 hI2 (by rw [byteCells_length]; omega) (by omega))
        have HX := Lib.hid (fun x : List UInt8 => show byteCells (34 :: (escs (encs done) ++ ([92] ++ x))) = byteCells (34 :: escs (encs done)) ++ [.int .u8 92] ++ byteCells x by
          rw [show (34 :: (escs (encs done) ++ ([92] ++ x))) = ((34 :: escs (encs done)) ++ [92]) ++ x by simp, byteCells_append, bytes_snoc]
          rfl)
        have HR := Lib.hid (fun W3 bs h hl hB => Try.Builder_WriteRune_k B B bs (r : Int) (by omega) (by omega) W3 h hl hB)
        clear hI2
        rcases h2 with rfl | rfl
        all_goals
          go_wp2_with fail
          refine HW.out.mono ?_
          rintro e W3 ⟨rfl, h3, b3, k3⟩
          have hsz3 : B ≤ W3.heap.size := by have := b3.size; omega
          have hit3 := k3.iter hit2 (by omega)
          have HW2 := Lib.hid (HR.out W3 _ (Or.inr h3) (by rw [List.length_append, byteCells_length]; simp only [List.length_cons, List.length_nil] at *; omega) hsz3)
          clear k3
          go_wp2_with fail
          refine HW2.out.mono ?_
          rintro e W4 ⟨rfl, h4, b4, k4⟩
          go_wp2_with fail
          have hit4 := k4.iter hit3 (by omega)
          go_roundw
          case rel =>
            refine ⟨done ++ [_], rest, HD.out.trans (List.append_cons _ _ _), ?_, by rw [hnext]; exact hit4, (hb2.trans b3).trans b4⟩
            rw [encs_snoc, escs_append, HE.out]
            refine Or.inr ?_
            rw [HX.out, enc, byteCells_encodeRune]
            exact h4
          case measure =>
            simp only [World.iterPos, hit4, hit]
            omega
      · rw [if_neg h2, List.nil_append] at hE
        have HE := Lib.hid hE
        clear hE
        have e1 : ((r : Int) == 34) = false := by simp; omega
        have e2 : ((r : Int) == 92) = false := by simp; omega
        have HW := Lib.hid (Try.Builder_WriteRune_k B B _ (r : Int) (by omega) (by omega) W2 hI2 (by rw [byteCells_length]; omega) (by omega))
        clear hI2 h2
        go_wp2_with fail
        refine HW.out.mono ?_
        rintro e W4 ⟨rfl, h4, b4, k4⟩
        go_wp2_with fail
        have hit4 := k4.iter hit2 (by omega)
        go_roundw
        case rel =>
          refine ⟨done ++ [r], rest, by rw [HD.out]; simp, ?_, by rw [hnext]; exact hit4, hb2.trans b4⟩
          rw [encs_snoc, escs_append, HE.out]
          refine Or.inr ?_
          rw [show (34 :: (escs (encs done) ++ enc r)) = (34 :: escs (encs done)) ++ enc r by simp]
          rw [byteCells_append, enc, byteCells_encodeRune]
          exact h4
        case measure =>
          simp only [World.iterPos, hit4, hit]
          omega
end Go.Proofs.Ytkbelhhimllfnaa
