/- TagsRefuses: for every input the call returns true, and nothing that was there has changed. No condition. -/
import Derived.Test.YtkbelhhimllfnaaRefP
import Derived.Test.YtkbelhhimllfnaaKit2
import Derived.Deep.RegionHeld3
namespace Go.Proofs.Ytkbelhhimllfnaa
open Go.RowKit

theorem infoInt : (Try.prog.info? 3).map (fun i => (i.zero, i.size, i.bytes)) = some (some (.int .i64 0), 1, 8) := by kernel_rfl
/-- What was put in, by its number. -/
def badAt (q : Nat) : ByteArray := ⟨(bads.getD q []).toArray⟩

theorem ownI_iterAt {w : World} {B : Nat} {v : Value} {xs : List Int} (h : OwnI w B v xs) {k : Nat} {s : ByteArray} {pos : Nat} (hk : w.heap[k]? = some (.stringIter s pos)) (pos' : Nat) : OwnI (w.iterAt k s pos') B v xs := by
  refine ⟨h.1, ?_⟩
  rcases h.2 with h2 | ⟨g, cap, cur, h1, h2, h3, hr⟩
  · exact .inl h2
  · refine .inr ⟨g, cap, cur, h1, h2, ?_, hr⟩
    have hne : g ≠ k := by
      intro e
      rw [e, hk] at h3
      cases h3
    exact (Lib.iterAt_other w k g s pos' hne).trans h3

theorem shape_at {w : World} {B n : Nat} {v : Value} {xs : List Int} (h : OwnI w B v xs) (hn : xs.length = n) (h1 : 1 ≤ n) (h2 : n ≤ maxLen) :
    ∃ b off cap, v = .slice (some ⟨b, off, none⟩) n cap ∧ b < w.heap.size ∧ ∀ i, i < n → w.cell? ⟨b, off + i, none⟩ = some (.int .i64 (xs.getD i 0)) := by
  subst hn
  rcases h.sl h2 with ⟨hl, _⟩ | ⟨b, off, cap, hv, _, hb, _, hc⟩
  · rw [hl] at h1; simp at h1
  · exact ⟨b, off, cap, hv, hb, hc⟩

set_option maxRecDepth 1000000 in
set_option maxHeartbeats 8000000 in
theorem refuses_walk (s : ByteArray) (a b : Nat) (ha : a < 256) (hb : b < 256) (w : World) :
    Calls Try.prog 3 #[.string s, .int .u8 a, .int .u8 b] w fun e w' => e = .returned (.bool true) ∧ Below w.heap.size w w' := by
  have HE := Lib.hid (fun w => (show Calls Try.prog 13 #[.string ⟨#[]⟩] w fun e w' => e = .returned (.int .i64 16) ∧ Keeps [] w w' by
    have := Check_ok ⟨#[]⟩ w
    rw [show tagErr (⟨#[]⟩ : ByteArray).data.toList = 16 by decide +kernel] at this
    exact this))
  by_cases hlong : 500 < s.size
  · go_enter Try.func3, Try.ntmps3
    go_wp2_with fail
    refine (HE.out _).mono ?_
    rintro e W1 ⟨rfl, k1⟩
    go_wp2_with fail
    refine (works_ok _).mono ?_
    rintro e W2 ⟨rfl, k2⟩
    go_wp2_with fail
    go_ret
    exact ⟨rfl, (k1.trans k2).below⟩
  · have HC := Check_ok s
    cases htag : isTag s.data.toList with
    | false =>
      unfold tagErr at HC
      rw [htag] at HC
      simp only [if_false, Bool.false_eq_true] at HC
      have HC2 := Lib.hid HC
      clear HC htag
      go_enter Try.func3, Try.ntmps3
      go_wp2_with fail
      refine (HC2.out _).mono ?_
      rintro e W0 ⟨rfl, k0⟩
      go_wp2_with fail
      refine (HE.out _).mono ?_
      rintro e W1 ⟨rfl, k1⟩
      go_wp2_with fail
      refine (works_ok _).mono ?_
      rintro e W2 ⟨rfl, k2⟩
      go_wp2_with fail
      go_ret
      exact ⟨rfl, ((k0.trans k1).trans k2).below⟩
    | true =>
      obtain ⟨rs, hrs⟩ := isTag_iff.1 htag
      have HL := hrs.len
      rw [← Lib.size_eq] at HL
      have HT := Lib.hid hrs.text
      have HS := Lib.hid hrs.sc
      have HR := Lib.hid hrs
      have hm := hrs.most
      unfold tagErr at HC
      rw [htag] at HC
      have HC2 := Lib.hid HC
      clear HC htag hrs
      go_enter Try.func3, Try.ntmps3
      go_wp2_with fail
      refine (HC2.out _).mono ?_
      rintro e w1 ⟨rfl, k1⟩
      obtain ⟨k, hk⟩ : ∃ k, w1.heap.size = k := ⟨_, rfl⟩
      go_wp2_with fail
      go_loopw [7] (fun v wr => ∃ (done rest : List Nat), rs = done ++ rest ∧ OwnI wr (k + 1) v (offs done) ∧ wr.heap[k]? = some (.stringIter s (encs done).length) ∧ Keeps [] w1 wr) (fun _ wr => s.size - wr.iterPos k)
      case atStart =>
        refine ⟨[], rs, rfl, OwnI.nil _ _, ?_, (Keeps.refl _ _).alloc _⟩
        have := World.iter_heap w1 s 0
        rw [hk] at this
        simpa using this
      case round =>
        obtain ⟨done, rest, hd, hv, hit, hK⟩ := hrel
        have HD := Lib.hid hd
        have hsz : k < wr.heap.size := (Array.getElem?_eq_some_iff.1 hit).1
        have hdl : done.length ≤ 24 := by rw [hd, List.length_append] at hm; omega
        clear hd
        obtain ⟨pa, cap, rfl⟩ := hv.shape
        cases rest with
        | nil =>
          have hp : ¬ (encs done).length < s.size := text_end (by rw [HT.out, HD.out, List.append_nil])
          have hnx : ∀ ty, (Instr.next (.pointer (some ⟨k, 0, none⟩)) true ty).run Try.prog wr = _ := fun ty => Lib.run_next_end_at wr k s _ ty hit hp
          have hrd : rs = done := by rw [HD.out, List.append_nil]
          clear HD
          subst hrd
          have hss : (encs rs).length = s.size := by rw [← HT.out, Lib.size_eq]
          have HOL := Lib.hid (offs_len rs)
          obtain ⟨n1, hn1⟩ : ∃ n1, (offs rs ++ [(s.size : Int)]).length = n1 := ⟨_, rfl⟩
          have hn2 : n1 = rs.length + 1 := by rw [← hn1, List.length_append, HOL.out]; rfl
          have HN1 := Lib.hid hn1
          have HN2 := Lib.hid hn2
          have hn3 : n1 ≤ 25 := by omega
          have hn4 : 1 ≤ n1 := by omega
          have hj9 := Nat.mod_lt a hn4
          have hjl : a % n1 ≤ rs.length := by omega
          have HAT := Lib.hid (show (offs rs ++ [(s.size : Int)]).getD (a % n1) 0 = ((encs (rs.take (a % n1))).length : Int) by rw [← hss]; exact offs_at rs hjl)
          have em : ((a : Int)).tmod n1 = ((a % n1 : Nat) : Int) := by rw [Int.tmod_eq_emod_of_nonneg (by omega)]; rfl
          have es : ¬ n1 = 0 := by omega
          clear hn1 hn2 hss
          have hsz9 : s.size < 1000 := by omega
          go_wp2_with (at_builtin; refine wpList_append_sl rfl (.tmp 45) (.tmp 48) 25 rfl (k + 1) Try.underlying25 infoInt rfl rfl (hv.alloc _) (SlI.lit (xs := [(s.size : Int)]) (Blk.new wr 3 #[.int .i64 s.size]) rfl (by unfold maxLen; simp)) (by rw [HOL.out]; simp; omega) (by simp; omega) ?_; intro v' w9 hown' hgrow hat; obtain ⟨bb, off, cap', rfl, hbb, hcell⟩ := shape_at hown' HN1.out hn4 (by unfold maxLen; omega))
          have hc9 := hcell (a % n1) hj9
          rw [HAT.out] at hc9
          have hk9 : Keeps [] w1 w9 := ((hK.alloc _).grown hgrow (fun y hy => .inr (by have := (hv.lt y hy).1; omega)))
          clear hcell hat hgrow hown' hv hit hnx
          have hP := HAT.out
          rw [List.getD_eq_getElem?_getD] at hP
          rw [hP, HOL.out]
          have hk10 : Keeps [] w1 (w9.alloc (.cells (bads.map fun l => Value.string ⟨l.toArray⟩).toArray 9)) := hk9.alloc _
          have hb10 := Blk.new w9 9 (bads.map fun l => Value.string ⟨l.toArray⟩).toArray
          rw [show (w9.alloc (.cells (bads.map fun l => Value.string ⟨l.toArray⟩).toArray 9)) = (w9.alloc (.cells #[.string ⟨#[0]⟩, .string ⟨#[10]⟩, .string ⟨#[31]⟩, .string ⟨#[127]⟩, .string ⟨#[255]⟩, .string ⟨#[128]⟩, .string ⟨#[192, 128]⟩, .string ⟨#[237, 160, 128]⟩, .string ⟨#[244, 144, 128, 128]⟩, .string ⟨#[226, 130]⟩, .string ⟨#[193, 191]⟩, .string ⟨#[248, 136, 128, 128, 128]⟩] 9)) from rfl] at hk10 hb10
          have hb12 : b % 12 < 12 := Nat.mod_lt b (by decide)
          have hcb := hb10.cellAt (b % 12) (.string (badAt (b % 12))) (by
            unfold badAt
            rw [List.getElem?_toArray, List.getElem?_map]
            simp only [List.getD]
            rw [List.getElem?_eq_getElem (by simp [bads]; omega)]
            rfl)
          have hTb : (badAt (b % 12)).data.toList = bads.getD (b % 12) [] := by unfold badAt; rfl
          have hbm : bads.getD (b % 12) [] ∈ bads := by
            simp only [List.getD]
            rw [List.getElem?_eq_getElem (by simp [bads]; omega)]
            exact List.getElem_mem _
          have emb : ((b : Int)).tmod 12 = ((b % 12 : Nat) : Int) := by rw [Int.tmod_eq_emod_of_nonneg (by omega)]; rfl
          have emb2 : (b : Int) % 12 = ((b % 12 : Nat) : Int) := rfl
          have HTB := Lib.hid hTb
          have HBM := Lib.hid hbm
          clear hb10 hc9 hP HAT hTb hbm hk9
          generalize w9.alloc _ = W10 at *
          generalize b % 12 = q at *
          generalize badAt q = bad at *
          have htake : rs.take (a % n1) <+: rs := List.take_prefix _ _
          have hPs : (encs (rs.take (a % n1))).length ≤ s.size := by
            rw [Lib.size_eq, HT.out]
            obtain ⟨ts, hts⟩ := htake
            rw [← hts, encs_append, List.length_append, hts]
            omega
          generalize a % n1 = j at *
          obtain ⟨P, hPdef⟩ : ∃ P, (encs (rs.take j)).length = P := ⟨_, rfl⟩
          rw [hPdef] at hPs ⊢
          have HPD := Lib.hid hPdef
          clear hPdef htake
          have ewb : IntKind.i64.wrap (b : Int) = b := IntWalk.i64_in _ (by omega)
          have hb12i : (q : Int) < 12 := by omega
          have hPsi : (P : Int) ≤ s.size := by omega
          have hbs : bad.size ≤ 5 := by
            rw [Lib.size_eq, HTB.out]
            have hB5 : ∀ B ∈ bads, B.length ≤ 5 := by decide
            exact hB5 _ HBM.out
          have hz1 : ¬ 9223372036854775807 < P + bad.size := by omega
          have hz2 : ¬ 9223372036854775807 < P + bad.size + (s.size - P) := by omega
          go_quiet (fail)
          have hT0 : (s.extract 0 P ++ bad ++ s.extract P s.size).data.toList = encs (rs.take j) ++ bads.getD q [] ++ encs (rs.drop j) := by
            have e1 : (s.extract 0 P ++ bad ++ s.extract P s.size).data.toList = (s.extract 0 P).data.toList ++ bad.data.toList ++ (s.extract P s.size).data.toList := by
              rw [ByteArray.data_append, ByteArray.data_append, Array.toList_append, Array.toList_append]
            have e2 : s.data.toList = encs (rs.take j) ++ encs (rs.drop j) := by rw [← encs_append, List.take_append_drop]; exact HT.out
            rw [e1, HTB.out, take_list, sub_list, e2, ← HPD.out, List.take_left, List.drop_left]
          have hTn : isTag (s.extract 0 P ++ bad ++ s.extract P s.size).data.toList = false := by
            rw [hT0]
            exact isTag_bad HBM.out (fun r hr => HS.out r (List.mem_of_mem_take hr)) (fun r hr => HS.out r (List.mem_of_mem_drop hr))
          have hTs : (s.extract 0 P ++ bad ++ s.extract P s.size).size ≤ 1000 := by
            rw [Lib.size_eq, hT0]
            have hB5 : ∀ B ∈ bads, B.length ≤ 5 := by decide
            have h5 := hB5 _ HBM.out
            have e2 : s.data.toList = encs (rs.take j) ++ encs (rs.drop j) := by rw [← encs_append, List.take_append_drop]; exact HT.out
            have e3 := congrArg List.length e2
            rw [← Lib.size_eq, List.length_append] at e3
            simp only [List.length_append]
            omega
          have HTk := Lib.hid hTn
          clear hT0 hTn
          generalize s.extract 0 P ++ bad ++ s.extract P s.size = T at *
          have hE : tagErr T.data.toList = 16 := (tagErr_or _).resolve_left (tagErr_false HTk.out)
          have hPl : plainB T.data.toList = false := by unfold plainB; rw [HTk.out, Bool.and_false]
          have hq := Quote_any T
          have hw := Width_any T
          have hc := Cut_any T 5 (by decide)
          have hch := Check_ok T
          have hpl := Plain_ok T hTs
          rw [hE] at hq hw hch
          rw [show cutE T.data.toList 5 = 16 by unfold cutE; rw [HTk.out]; rfl] at hc
          rw [hPl] at hpl
          unfold StrErr at hq hc
          unfold IntErr at hw
          have HQ := Lib.hid hq
          have HW := Lib.hid hw
          have HC5 := Lib.hid hc
          have HCh := Lib.hid hch
          have HPl := Lib.hid hpl
          clear hq hw hc hch hpl hE hPl
          have hk11 : Keeps [] w1 (W10.drewN nq) := hk10.drewN nq
          generalize W10.drewN nq = W11 at *
          go_wp2_with fail
          refine (HQ.out _).mono ?_
          rintro e W12 ⟨rfl, k12⟩
          go_wp2_with fail
          refine (HW.out _).mono ?_
          rintro e W13 ⟨rfl, k13⟩
          go_wp2_with fail
          refine (HC5.out _).mono ?_
          rintro e W14 ⟨rfl, k14⟩
          go_wp2_with fail
          refine (HCh.out _).mono ?_
          rintro e W15 ⟨rfl, k15⟩
          go_wp2_with fail
          refine (HPl.out _).mono ?_
          rintro e W16 ⟨rfl, k16⟩
          have hk16 := ((((hk11.trans k12).trans k13).trans k14).trans k15).trans k16
          clear k12 k13 k14 k15 k16 hk11 hk10 hcb
          have hcm := Cut_any s (-1) (by decide)
          rw [show cutE s.data.toList (-1) = 2 by unfold cutE; rw [HR.out.isTag]; rfl] at hcm
          unfold StrErr at hcm
          have HCm := Lib.hid hcm
          clear hcm
          go_wp2_with fail
          refine (HCm.out _).mono ?_
          rintro e W17 ⟨rfl, k17⟩
          have hk17 := hk16.trans k17
          clear hk16 k17
          go_wp2_with fail
          have hU0 : (s.extract 0 P ++ ⟨#[113]⟩ ++ s.extract P s.size).data.toList = encs (rs.take j) ++ [113] ++ encs (rs.drop j) := by
            have e1 : (s.extract 0 P ++ ⟨#[113]⟩ ++ s.extract P s.size).data.toList = (s.extract 0 P).data.toList ++ [113] ++ (s.extract P s.size).data.toList := by
              rw [ByteArray.data_append, ByteArray.data_append, Array.toList_append, Array.toList_append]
            have e2 : s.data.toList = encs (rs.take j) ++ encs (rs.drop j) := by rw [← encs_append, List.take_append_drop]; exact HT.out
            rw [e1, take_list, sub_list, e2, ← HPD.out, List.take_left, List.drop_left]
          have hUq : isTag (s.extract 0 P ++ ⟨#[113]⟩ ++ s.extract P s.size).data.toList = decide (rs.length < 24) := by
            rw [hU0]
            have := isTag_q (rs := rs.take j) (ts := rs.drop j) (l := s.data.toList) (by rw [List.take_append_drop]; exact HR.out)
            rw [List.take_append_drop] at this
            exact this
          have hcu := Check_ok (s.extract 0 P ++ ⟨#[113]⟩ ++ s.extract P s.size)
          unfold tagErr at hcu
          rw [hUq] at hcu
          have hz3 : ¬ 9223372036854775807 < P + 1 := by omega
          have hz4 : ¬ 9223372036854775807 < P + 1 + (s.size - P) := by omega
          have hz5 : ¬ 9223372036854775807 < P + ByteArray.size ⟨#[113]⟩ := hz3
          have hz6 : ¬ 9223372036854775807 < P + ByteArray.size ⟨#[113]⟩ + (s.size - P) := hz4
          clear hU0 hUq
          by_cases h24 : rs.length < 24
          · rw [decide_eq_true h24] at hcu
            have hd24 : decide ((rs.length : Int) < 24) = true := decide_eq_true (by omega)
            simp only [if_true] at hcu
            have HU := Lib.hid hcu
            clear hcu
            go_region_held3 (fun w' => Keeps [] w1 w') (first | assumption | exact Keeps.drew (by assumption) | exact Keeps.trans (by assumption) (by assumption)) (first | (go_at_call 13; refine (HU.out _).mono ?_; rintro e W18 ⟨rfl, k18⟩) | (go_at_call 14; refine (works_ok _).mono ?_; rintro e W19 ⟨rfl, k19⟩))
            go_wp2_with fail
            go_ret
            exact ⟨rfl, (k1.trans (by assumption)).below⟩
          · rw [decide_eq_false h24] at hcu
            have hd24 : decide ((rs.length : Int) < 24) = false := decide_eq_false (by omega)
            simp only [if_false, Bool.false_eq_true] at hcu
            have HU := Lib.hid hcu
            clear hcu
            go_region_held3 (fun w' => Keeps [] w1 w') (first | assumption | exact Keeps.drew (by assumption) | exact Keeps.trans (by assumption) (by assumption)) (first | (go_at_call 13; refine (HU.out _).mono ?_; rintro e W18 ⟨rfl, k18⟩) | (go_at_call 14; refine (works_ok _).mono ?_; rintro e W19 ⟨rfl, k19⟩))
            go_wp2_with fail
            go_ret
            exact ⟨rfl, (k1.trans (by assumption)).below⟩
        | cons r rest =>
          have hdr := HT.out
          rw [HD.out] at hdr
          obtain ⟨hp, hdec⟩ := rune_at hdr (HS.out r (by rw [HD.out]; simp))
          have hnx : ∀ ty, (Instr.next (.pointer (some ⟨k, 0, none⟩)) true ty).run Try.prog wr = .ok (.tuple #[.bool true, .int .i64 (encs done).length, .int .i32 r]) (wr.iterAt k s ((encs done).length + (enc r).length)) := fun ty => by
            rw [Lib.run_next_any_at wr k s _ ty hit hp, hdec]
          have hit2 := Lib.iterAt_heap wr k s _ ((encs done).length + (enc r).length) hit
          have hk2 := iterAt_keeps hK (k := k) (by omega) s ((encs done).length + (enc r).length)
          have hv2 : OwnI (wr.iterAt k s ((encs done).length + (enc r).length)) (k + 1) (.slice pa (offs done).length cap) (offs done) := ownI_iterAt hv hit _
          have hl := enc_len r
          have hsz2 : k < (wr.iterAt k s ((encs done).length + (enc r).length)).heap.size := by rw [Lib.iterAt_size]; exact hsz
          have HO := Lib.hid (offs_snoc done r)
          have HOL := Lib.hid (offs_len done)
          have hnext : (encs (done ++ [r])).length = (encs done).length + (enc r).length := by rw [encs_snoc, List.length_append]
          generalize wr.iterAt k s ((encs done).length + (enc r).length) = W2 at *
          generalize hpos : (encs done).length = pos at *
          clear hdr hdec hv
          go_wp2_with (at_builtin; refine wpList_append_sl rfl (.tmp 39) (.tmp 41) 25 rfl (k + 1) Try.underlying25 infoInt rfl rfl (hv2.alloc _) (SlI.lit (xs := [(pos : Int)]) (Blk.new W2 3 #[.int .i64 pos]) rfl (by unfold maxLen; simp)) (by rw [HOL.out]; simp; omega) (by simp; omega) ?_; intro v' w9 hown' hgrow hat)
          have hk3 : Keeps [] w1 w9 := (hk2.alloc _).grown hgrow (fun y hy => .inr (by have := (hv2.lt y hy).1; omega))
          have hit3 : w9.heap[k]? = some (.stringIter s (pos + (enc r).length)) := by
            rw [hgrow.block k (by simp; omega) (fun e => by have := (hv2.lt k e.symm).1; omega)]
            exact (Below.heap_alloc _ _ k hsz2).trans hit2
          go_roundw
          case rel =>
            refine ⟨done ++ [r], rest, by rw [HD.out]; simp, ?_, by rw [hnext]; exact hit3, hk3⟩
            rw [HO.out]; exact hown'
          case measure =>
            simp only [World.iterPos, hit3, hit]
            omega
end Go.Proofs.Ytkbelhhimllfnaa
