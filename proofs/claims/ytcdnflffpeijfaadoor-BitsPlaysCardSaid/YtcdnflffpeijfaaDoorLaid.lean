/- The condition that the row's listed variable reads as the program's text lays it gives the table of TrailingZeros64; a start that meets it. -/
import Derived.Test.YtcdnflffpeijfaaDoorIter
import Derived.ProofKit
import Derived.LaidMore
import Derived.OpenShut
import Derived.Stop.Joined
namespace Go.Proofs.YtcdnflffpeijfaaDoor
open Go.ChangeShapes Go.WideShapes Go.ChangeAt Go.RowKit Go.Shelf

def laidL : List (String × DataW Unit) := [("math/bits.deBruijn64tab", Rows.laid_math_bits_deBruijn64tab)]
theorem gTab : Tryd.prog.globalNamed "math/bits.deBruijn64tab" = some 0 := by kernel_rfl
theorem tTab : (Tryd.prog.globals[0]?).map (·.type) = some 79 := by kernel_rfl
def tabOf (n : Nat) : DataW Unit := .lit (.int .u8 (n : Int))
theorem tab_eq : (Rows.laid_math_bits_deBruijn64tab : DataW Unit) = .agg (Lib.deBruijn64tab.map tabOf) := by rfl
theorem tab_len : Lib.deBruijn64tab.length = 64 := by rfl
/-- A start that meets the condition. -/
theorem door_met (os : Os) (args : Array Value) : laidMetH Tryd.prog laidL ((World.doorLaid Tryd.prog 14 os).forCall (fun _ _ => 0) ⟨#[], args, []⟩).memory :=
  laidMetH_of_parts3 (fuel := 8) (laidMet_of_run' 8 (by kernel_rfl) (by kernel_rfl)) (by kernel_rfl) (by kernel_rfl)
theorem table_of_laid {W : World} (h : laidMetH Tryd.prog laidL W) : Table W := by
  rw [MakeChecks.laidMetH_plain _ _ _ (by kernel_rfl)] at h
  obtain ⟨ps, ⟨g0, t0, cs0, f0, p0, q0, hg0, ht0, hv0, hd0, _, _⟩, _, _⟩ := h
  obtain rfl := Option.some.inj (gTab.symm.trans hg0)
  obtain rfl := Option.some.inj (tTab.symm.trans ht0)
  rw [tab_eq] at hd0
  obtain ⟨xs, m1, rfl, hx1, hlen, hn3, hel⟩ := DataW.trod_array Tryd.underlying79 hd0
  have cE : Tryd.prog.cellsOf 5 = 1 := by kernel_rfl
  simp only [Prod.mk.injEq, DataW.agg.injEq] at hx1
  intro j hj
  rw [tab_len] at hj
  have h0 := hel j hj
  have hxj : j < xs.length := by omega
  rw [List.getElem?_eq_getElem hxj] at h0
  obtain ⟨k, e1, e2, _⟩ := DataW.trod_int Tryd.underlying5 h0
  have e3 : (xs.map (·.1))[j]? = some (.lit (.int .u8 k)) := by
    rw [List.getElem?_map, List.getElem?_eq_getElem hxj, e2]
    rfl
  rw [← hx1.1, List.getElem?_map] at e3
  have hjl : j < Lib.deBruijn64tab.length := by rw [tab_len]; exact hj
  rw [List.getElem?_eq_getElem hjl] at e3
  have hk : k = (Lib.deBruijn64tab.getD j 0 : Nat) := by
    simp only [Option.map_some, Option.some.injEq, tabOf, DataW.lit.injEq, Lit.int.injEq, true_and] at e3
    rw [← e3]
    simp [List.getD, List.getElem?_eq_getElem hjl]
  rw [World.var?_cell hg0 hv0 j]
  rw [cE, Nat.mul_one] at e1
  have : (cs0.toList.drop j).take 1 = [Value.int .u8 k] := e1
  have h2 : cs0.toList[j]? = some (.int .u8 k) := by
    have := congrArg (fun l => l[0]?) this
    simpa [List.getElem?_take, List.getElem?_drop] using this
  rw [Array.getElem?_toList] at h2
  rw [h2, hk]
theorem Table.pos {w : World} (h : Table w) : 0 < w.heap.size := World.block_lt_of_cell? w _ (h 0 (by rw [tab_len]; omega))
end Go.Proofs.YtcdnflffpeijfaaDoor
