/- TagsSorts: for every input the call returns true, and nothing that was there has changed. No condition. Printed by gen-sorts.py. -/
import Derived.Test.YtkbelhhimllfnaaSortP
namespace Go.Proofs.Ytkbelhhimllfnaa
open Go.RowKit

/-- What the calls answer, and what the law asks of the answers. -/
structure SortFacts (s t u : ByteArray) (ab bc ac ex ey : Int) : Prop where
  h1 : ∀ w, Calls Try.prog 26 #[.string s, .string t] w fun e w' => e = .returned (.int .i64 ab) ∧ Keeps [] w w'
  h2 : ∀ w, Calls Try.prog 26 #[.string t, .string u] w fun e w' => e = .returned (.int .i64 bc) ∧ Keeps [] w w'
  h3 : ∀ w, Calls Try.prog 26 #[.string s, .string u] w fun e w' => e = .returned (.int .i64 ac) ∧ Keeps [] w w'
  h4 : ∀ w, Calls Try.prog 26 #[.string t, .string s] w fun e w' => e = .returned (.int .i64 (-ab)) ∧ Keeps [] w w'
  h5 : ∀ w, Calls Try.prog 13 #[.string s] w fun e w' => e = .returned (.int .i64 ex) ∧ Keeps [] w w'
  h6 : ∀ w, Calls Try.prog 13 #[.string t] w fun e w' => e = .returned (.int .i64 ey) ∧ Keeps [] w w'
  ls : s.size ≤ 300
  lt : t.size ≤ 300
  lu : u.size ≤ 300

set_option maxRecDepth 1000000 in
set_option maxHeartbeats 8000000 in
theorem sorts_0_0_1_v_v {s t u : ByteArray} (bc : Int) (ac : Int) (H : SortFacts s t u 1 bc ac 0 0) (hlt : Op.bytesLess s.toList t.toList = false) (heq : (s.toList == t.toList) = false) (w : World) : Calls Try.prog 12 #[.string s, .string t, .string u] w fun e w' => e = .returned (.bool true) ∧ Below w.heap.size w w' := by
  have HF := Lib.hid H
  have l1 := H.ls
  have l2 := H.lt
  have l3 := H.lu
  clear H
  go_enter Try.func12, Try.ntmps12
  go_wp2_with fail
  refine (HF.out.h1 _).mono ?_
  rintro e W1 ⟨rfl, k1⟩
  go_wp2_with fail
  refine (HF.out.h2 _).mono ?_
  rintro e W2 ⟨rfl, k2⟩
  go_wp2_with fail
  refine (HF.out.h3 _).mono ?_
  rintro e W3 ⟨rfl, k3⟩
  go_wp2_with fail
  refine (HF.out.h5 _).mono ?_
  rintro e W4 ⟨rfl, k4⟩
  go_wp2_with fail
  refine (HF.out.h6 _).mono ?_
  rintro e W5 ⟨rfl, k5⟩
  go_wp2_with fail
  refine (HF.out.h4 _).mono ?_
  rintro e W6 ⟨rfl, k6⟩
  have k := ((((k1.trans k2).trans k3).trans k4).trans k5).trans k6
  clear k1 k2 k3 k4 k5 k6
  go_wp2_with fail
  refine (works_ok _).mono ?_
  rintro e W7 ⟨rfl, k7⟩
  go_wp2_with fail
  go_ret
  exact ⟨rfl, (k.trans k7).below⟩

set_option maxRecDepth 1000000 in
set_option maxHeartbeats 8000000 in
theorem sorts_0_0_0_1_v {s t u : ByteArray} (ac : Int) (H : SortFacts s t u 0 1 ac 0 0) (hlt : Op.bytesLess s.toList t.toList = false) (heq : (s.toList == t.toList) = true) (w : World) : Calls Try.prog 12 #[.string s, .string t, .string u] w fun e w' => e = .returned (.bool true) ∧ Below w.heap.size w w' := by
  have HF := Lib.hid H
  have l1 := H.ls
  have l2 := H.lt
  have l3 := H.lu
  clear H
  go_enter Try.func12, Try.ntmps12
  go_wp2_with fail
  refine (HF.out.h1 _).mono ?_
  rintro e W1 ⟨rfl, k1⟩
  go_wp2_with fail
  refine (HF.out.h2 _).mono ?_
  rintro e W2 ⟨rfl, k2⟩
  go_wp2_with fail
  refine (HF.out.h3 _).mono ?_
  rintro e W3 ⟨rfl, k3⟩
  go_wp2_with fail
  refine (HF.out.h5 _).mono ?_
  rintro e W4 ⟨rfl, k4⟩
  go_wp2_with fail
  refine (HF.out.h6 _).mono ?_
  rintro e W5 ⟨rfl, k5⟩
  go_wp2_with fail
  refine (HF.out.h4 _).mono ?_
  rintro e W6 ⟨rfl, k6⟩
  have k := ((((k1.trans k2).trans k3).trans k4).trans k5).trans k6
  clear k1 k2 k3 k4 k5 k6
  go_wp2_with fail
  refine (works_ok _).mono ?_
  rintro e W7 ⟨rfl, k7⟩
  go_wp2_with fail
  go_ret
  exact ⟨rfl, (k.trans k7).below⟩

set_option maxRecDepth 1000000 in
set_option maxHeartbeats 8000000 in
theorem sorts_0_0_0_0_0 {s t u : ByteArray} (H : SortFacts s t u 0 0 0 0 0) (hlt : Op.bytesLess s.toList t.toList = false) (heq : (s.toList == t.toList) = true) (w : World) : Calls Try.prog 12 #[.string s, .string t, .string u] w fun e w' => e = .returned (.bool true) ∧ Below w.heap.size w w' := by
  have HF := Lib.hid H
  have l1 := H.ls
  have l2 := H.lt
  have l3 := H.lu
  clear H
  go_enter Try.func12, Try.ntmps12
  go_wp2_with fail
  refine (HF.out.h1 _).mono ?_
  rintro e W1 ⟨rfl, k1⟩
  go_wp2_with fail
  refine (HF.out.h2 _).mono ?_
  rintro e W2 ⟨rfl, k2⟩
  go_wp2_with fail
  refine (HF.out.h3 _).mono ?_
  rintro e W3 ⟨rfl, k3⟩
  go_wp2_with fail
  refine (HF.out.h5 _).mono ?_
  rintro e W4 ⟨rfl, k4⟩
  go_wp2_with fail
  refine (HF.out.h6 _).mono ?_
  rintro e W5 ⟨rfl, k5⟩
  go_wp2_with fail
  refine (HF.out.h4 _).mono ?_
  rintro e W6 ⟨rfl, k6⟩
  have k := ((((k1.trans k2).trans k3).trans k4).trans k5).trans k6
  clear k1 k2 k3 k4 k5 k6
  go_wp2_with fail
  refine (works_ok _).mono ?_
  rintro e W7 ⟨rfl, k7⟩
  go_wp2_with fail
  go_ret
  exact ⟨rfl, (k.trans k7).below⟩

set_option maxRecDepth 1000000 in
set_option maxHeartbeats 8000000 in
theorem sorts_0_0_0_0_m1 {s t u : ByteArray} (H : SortFacts s t u 0 0 (-1) 0 0) (hlt : Op.bytesLess s.toList t.toList = false) (heq : (s.toList == t.toList) = true) (w : World) : Calls Try.prog 12 #[.string s, .string t, .string u] w fun e w' => e = .returned (.bool true) ∧ Below w.heap.size w w' := by
  have HF := Lib.hid H
  have l1 := H.ls
  have l2 := H.lt
  have l3 := H.lu
  clear H
  go_enter Try.func12, Try.ntmps12
  go_wp2_with fail
  refine (HF.out.h1 _).mono ?_
  rintro e W1 ⟨rfl, k1⟩
  go_wp2_with fail
  refine (HF.out.h2 _).mono ?_
  rintro e W2 ⟨rfl, k2⟩
  go_wp2_with fail
  refine (HF.out.h3 _).mono ?_
  rintro e W3 ⟨rfl, k3⟩
  go_wp2_with fail
  refine (HF.out.h5 _).mono ?_
  rintro e W4 ⟨rfl, k4⟩
  go_wp2_with fail
  refine (HF.out.h6 _).mono ?_
  rintro e W5 ⟨rfl, k5⟩
  go_wp2_with fail
  refine (HF.out.h4 _).mono ?_
  rintro e W6 ⟨rfl, k6⟩
  have k := ((((k1.trans k2).trans k3).trans k4).trans k5).trans k6
  clear k1 k2 k3 k4 k5 k6
  go_wp2_with fail
  refine (works_ok _).mono ?_
  rintro e W7 ⟨rfl, k7⟩
  go_wp2_with fail
  go_ret
  exact ⟨rfl, (k.trans k7).below⟩

set_option maxRecDepth 1000000 in
set_option maxHeartbeats 8000000 in
theorem sorts_0_0_0_m1_m1 {s t u : ByteArray} (H : SortFacts s t u 0 (-1) (-1) 0 0) (hlt : Op.bytesLess s.toList t.toList = false) (heq : (s.toList == t.toList) = true) (w : World) : Calls Try.prog 12 #[.string s, .string t, .string u] w fun e w' => e = .returned (.bool true) ∧ Below w.heap.size w w' := by
  have HF := Lib.hid H
  have l1 := H.ls
  have l2 := H.lt
  have l3 := H.lu
  clear H
  go_enter Try.func12, Try.ntmps12
  go_wp2_with fail
  refine (HF.out.h1 _).mono ?_
  rintro e W1 ⟨rfl, k1⟩
  go_wp2_with fail
  refine (HF.out.h2 _).mono ?_
  rintro e W2 ⟨rfl, k2⟩
  go_wp2_with fail
  refine (HF.out.h3 _).mono ?_
  rintro e W3 ⟨rfl, k3⟩
  go_wp2_with fail
  refine (HF.out.h5 _).mono ?_
  rintro e W4 ⟨rfl, k4⟩
  go_wp2_with fail
  refine (HF.out.h6 _).mono ?_
  rintro e W5 ⟨rfl, k5⟩
  go_wp2_with fail
  refine (HF.out.h4 _).mono ?_
  rintro e W6 ⟨rfl, k6⟩
  have k := ((((k1.trans k2).trans k3).trans k4).trans k5).trans k6
  clear k1 k2 k3 k4 k5 k6
  go_wp2_with fail
  refine (works_ok _).mono ?_
  rintro e W7 ⟨rfl, k7⟩
  go_wp2_with fail
  go_ret
  exact ⟨rfl, (k.trans k7).below⟩

set_option maxRecDepth 1000000 in
set_option maxHeartbeats 8000000 in
theorem sorts_0_0_m1_1_v {s t u : ByteArray} (ac : Int) (H : SortFacts s t u (-1) 1 ac 0 0) (hlt : Op.bytesLess s.toList t.toList = true) (heq : (s.toList == t.toList) = false) (w : World) : Calls Try.prog 12 #[.string s, .string t, .string u] w fun e w' => e = .returned (.bool true) ∧ Below w.heap.size w w' := by
  have HF := Lib.hid H
  have l1 := H.ls
  have l2 := H.lt
  have l3 := H.lu
  clear H
  go_enter Try.func12, Try.ntmps12
  go_wp2_with fail
  refine (HF.out.h1 _).mono ?_
  rintro e W1 ⟨rfl, k1⟩
  go_wp2_with fail
  refine (HF.out.h2 _).mono ?_
  rintro e W2 ⟨rfl, k2⟩
  go_wp2_with fail
  refine (HF.out.h3 _).mono ?_
  rintro e W3 ⟨rfl, k3⟩
  go_wp2_with fail
  refine (HF.out.h5 _).mono ?_
  rintro e W4 ⟨rfl, k4⟩
  go_wp2_with fail
  refine (HF.out.h6 _).mono ?_
  rintro e W5 ⟨rfl, k5⟩
  go_wp2_with fail
  refine (HF.out.h4 _).mono ?_
  rintro e W6 ⟨rfl, k6⟩
  have k := ((((k1.trans k2).trans k3).trans k4).trans k5).trans k6
  clear k1 k2 k3 k4 k5 k6
  go_wp2_with fail
  refine (works_ok _).mono ?_
  rintro e W7 ⟨rfl, k7⟩
  go_wp2_with fail
  go_ret
  exact ⟨rfl, (k.trans k7).below⟩

set_option maxRecDepth 1000000 in
set_option maxHeartbeats 8000000 in
theorem sorts_0_0_m1_0_m1 {s t u : ByteArray} (H : SortFacts s t u (-1) 0 (-1) 0 0) (hlt : Op.bytesLess s.toList t.toList = true) (heq : (s.toList == t.toList) = false) (w : World) : Calls Try.prog 12 #[.string s, .string t, .string u] w fun e w' => e = .returned (.bool true) ∧ Below w.heap.size w w' := by
  have HF := Lib.hid H
  have l1 := H.ls
  have l2 := H.lt
  have l3 := H.lu
  clear H
  go_enter Try.func12, Try.ntmps12
  go_wp2_with fail
  refine (HF.out.h1 _).mono ?_
  rintro e W1 ⟨rfl, k1⟩
  go_wp2_with fail
  refine (HF.out.h2 _).mono ?_
  rintro e W2 ⟨rfl, k2⟩
  go_wp2_with fail
  refine (HF.out.h3 _).mono ?_
  rintro e W3 ⟨rfl, k3⟩
  go_wp2_with fail
  refine (HF.out.h5 _).mono ?_
  rintro e W4 ⟨rfl, k4⟩
  go_wp2_with fail
  refine (HF.out.h6 _).mono ?_
  rintro e W5 ⟨rfl, k5⟩
  go_wp2_with fail
  refine (HF.out.h4 _).mono ?_
  rintro e W6 ⟨rfl, k6⟩
  have k := ((((k1.trans k2).trans k3).trans k4).trans k5).trans k6
  clear k1 k2 k3 k4 k5 k6
  go_wp2_with fail
  refine (works_ok _).mono ?_
  rintro e W7 ⟨rfl, k7⟩
  go_wp2_with fail
  go_ret
  exact ⟨rfl, (k.trans k7).below⟩

set_option maxRecDepth 1000000 in
set_option maxHeartbeats 8000000 in
theorem sorts_0_0_m1_m1_m1 {s t u : ByteArray} (H : SortFacts s t u (-1) (-1) (-1) 0 0) (hlt : Op.bytesLess s.toList t.toList = true) (heq : (s.toList == t.toList) = false) (w : World) : Calls Try.prog 12 #[.string s, .string t, .string u] w fun e w' => e = .returned (.bool true) ∧ Below w.heap.size w w' := by
  have HF := Lib.hid H
  have l1 := H.ls
  have l2 := H.lt
  have l3 := H.lu
  clear H
  go_enter Try.func12, Try.ntmps12
  go_wp2_with fail
  refine (HF.out.h1 _).mono ?_
  rintro e W1 ⟨rfl, k1⟩
  go_wp2_with fail
  refine (HF.out.h2 _).mono ?_
  rintro e W2 ⟨rfl, k2⟩
  go_wp2_with fail
  refine (HF.out.h3 _).mono ?_
  rintro e W3 ⟨rfl, k3⟩
  go_wp2_with fail
  refine (HF.out.h5 _).mono ?_
  rintro e W4 ⟨rfl, k4⟩
  go_wp2_with fail
  refine (HF.out.h6 _).mono ?_
  rintro e W5 ⟨rfl, k5⟩
  go_wp2_with fail
  refine (HF.out.h4 _).mono ?_
  rintro e W6 ⟨rfl, k6⟩
  have k := ((((k1.trans k2).trans k3).trans k4).trans k5).trans k6
  clear k1 k2 k3 k4 k5 k6
  go_wp2_with fail
  refine (works_ok _).mono ?_
  rintro e W7 ⟨rfl, k7⟩
  go_wp2_with fail
  go_ret
  exact ⟨rfl, (k.trans k7).below⟩

set_option maxRecDepth 1000000 in
set_option maxHeartbeats 8000000 in
theorem sorts_0_16_1_v_v {s t u : ByteArray} (bc : Int) (ac : Int) (H : SortFacts s t u 1 bc ac 0 16) (w : World) : Calls Try.prog 12 #[.string s, .string t, .string u] w fun e w' => e = .returned (.bool true) ∧ Below w.heap.size w w' := by
  have HF := Lib.hid H
  have l1 := H.ls
  have l2 := H.lt
  have l3 := H.lu
  clear H
  go_enter Try.func12, Try.ntmps12
  go_wp2_with fail
  refine (HF.out.h1 _).mono ?_
  rintro e W1 ⟨rfl, k1⟩
  go_wp2_with fail
  refine (HF.out.h2 _).mono ?_
  rintro e W2 ⟨rfl, k2⟩
  go_wp2_with fail
  refine (HF.out.h3 _).mono ?_
  rintro e W3 ⟨rfl, k3⟩
  go_wp2_with fail
  refine (HF.out.h5 _).mono ?_
  rintro e W4 ⟨rfl, k4⟩
  go_wp2_with fail
  refine (HF.out.h6 _).mono ?_
  rintro e W5 ⟨rfl, k5⟩
  go_wp2_with fail
  refine (HF.out.h4 _).mono ?_
  rintro e W6 ⟨rfl, k6⟩
  have k := ((((k1.trans k2).trans k3).trans k4).trans k5).trans k6
  clear k1 k2 k3 k4 k5 k6
  go_wp2_with fail
  refine (works_ok _).mono ?_
  rintro e W7 ⟨rfl, k7⟩
  go_wp2_with fail
  go_ret
  exact ⟨rfl, (k.trans k7).below⟩

set_option maxRecDepth 1000000 in
set_option maxHeartbeats 8000000 in
theorem sorts_16_0_m1_1_v {s t u : ByteArray} (ac : Int) (H : SortFacts s t u (-1) 1 ac 16 0) (w : World) : Calls Try.prog 12 #[.string s, .string t, .string u] w fun e w' => e = .returned (.bool true) ∧ Below w.heap.size w w' := by
  have HF := Lib.hid H
  have l1 := H.ls
  have l2 := H.lt
  have l3 := H.lu
  clear H
  go_enter Try.func12, Try.ntmps12
  go_wp2_with fail
  refine (HF.out.h1 _).mono ?_
  rintro e W1 ⟨rfl, k1⟩
  go_wp2_with fail
  refine (HF.out.h2 _).mono ?_
  rintro e W2 ⟨rfl, k2⟩
  go_wp2_with fail
  refine (HF.out.h3 _).mono ?_
  rintro e W3 ⟨rfl, k3⟩
  go_wp2_with fail
  refine (HF.out.h5 _).mono ?_
  rintro e W4 ⟨rfl, k4⟩
  go_wp2_with fail
  refine (HF.out.h6 _).mono ?_
  rintro e W5 ⟨rfl, k5⟩
  go_wp2_with fail
  refine (HF.out.h4 _).mono ?_
  rintro e W6 ⟨rfl, k6⟩
  have k := ((((k1.trans k2).trans k3).trans k4).trans k5).trans k6
  clear k1 k2 k3 k4 k5 k6
  go_wp2_with fail
  refine (works_ok _).mono ?_
  rintro e W7 ⟨rfl, k7⟩
  go_wp2_with fail
  go_ret
  exact ⟨rfl, (k.trans k7).below⟩

set_option maxRecDepth 1000000 in
set_option maxHeartbeats 8000000 in
theorem sorts_16_0_m1_0_m1 {s t u : ByteArray} (H : SortFacts s t u (-1) 0 (-1) 16 0) (w : World) : Calls Try.prog 12 #[.string s, .string t, .string u] w fun e w' => e = .returned (.bool true) ∧ Below w.heap.size w w' := by
  have HF := Lib.hid H
  have l1 := H.ls
  have l2 := H.lt
  have l3 := H.lu
  clear H
  go_enter Try.func12, Try.ntmps12
  go_wp2_with fail
  refine (HF.out.h1 _).mono ?_
  rintro e W1 ⟨rfl, k1⟩
  go_wp2_with fail
  refine (HF.out.h2 _).mono ?_
  rintro e W2 ⟨rfl, k2⟩
  go_wp2_with fail
  refine (HF.out.h3 _).mono ?_
  rintro e W3 ⟨rfl, k3⟩
  go_wp2_with fail
  refine (HF.out.h5 _).mono ?_
  rintro e W4 ⟨rfl, k4⟩
  go_wp2_with fail
  refine (HF.out.h6 _).mono ?_
  rintro e W5 ⟨rfl, k5⟩
  go_wp2_with fail
  refine (HF.out.h4 _).mono ?_
  rintro e W6 ⟨rfl, k6⟩
  have k := ((((k1.trans k2).trans k3).trans k4).trans k5).trans k6
  clear k1 k2 k3 k4 k5 k6
  go_wp2_with fail
  refine (works_ok _).mono ?_
  rintro e W7 ⟨rfl, k7⟩
  go_wp2_with fail
  go_ret
  exact ⟨rfl, (k.trans k7).below⟩

set_option maxRecDepth 1000000 in
set_option maxHeartbeats 8000000 in
theorem sorts_16_0_m1_m1_m1 {s t u : ByteArray} (H : SortFacts s t u (-1) (-1) (-1) 16 0) (w : World) : Calls Try.prog 12 #[.string s, .string t, .string u] w fun e w' => e = .returned (.bool true) ∧ Below w.heap.size w w' := by
  have HF := Lib.hid H
  have l1 := H.ls
  have l2 := H.lt
  have l3 := H.lu
  clear H
  go_enter Try.func12, Try.ntmps12
  go_wp2_with fail
  refine (HF.out.h1 _).mono ?_
  rintro e W1 ⟨rfl, k1⟩
  go_wp2_with fail
  refine (HF.out.h2 _).mono ?_
  rintro e W2 ⟨rfl, k2⟩
  go_wp2_with fail
  refine (HF.out.h3 _).mono ?_
  rintro e W3 ⟨rfl, k3⟩
  go_wp2_with fail
  refine (HF.out.h5 _).mono ?_
  rintro e W4 ⟨rfl, k4⟩
  go_wp2_with fail
  refine (HF.out.h6 _).mono ?_
  rintro e W5 ⟨rfl, k5⟩
  go_wp2_with fail
  refine (HF.out.h4 _).mono ?_
  rintro e W6 ⟨rfl, k6⟩
  have k := ((((k1.trans k2).trans k3).trans k4).trans k5).trans k6
  clear k1 k2 k3 k4 k5 k6
  go_wp2_with fail
  refine (works_ok _).mono ?_
  rintro e W7 ⟨rfl, k7⟩
  go_wp2_with fail
  go_ret
  exact ⟨rfl, (k.trans k7).below⟩

set_option maxRecDepth 1000000 in
set_option maxHeartbeats 8000000 in
theorem sorts_16_16_0_1_v {s t u : ByteArray} (ac : Int) (H : SortFacts s t u 0 1 ac 16 16) (w : World) : Calls Try.prog 12 #[.string s, .string t, .string u] w fun e w' => e = .returned (.bool true) ∧ Below w.heap.size w w' := by
  have HF := Lib.hid H
  have l1 := H.ls
  have l2 := H.lt
  have l3 := H.lu
  clear H
  go_enter Try.func12, Try.ntmps12
  go_wp2_with fail
  refine (HF.out.h1 _).mono ?_
  rintro e W1 ⟨rfl, k1⟩
  go_wp2_with fail
  refine (HF.out.h2 _).mono ?_
  rintro e W2 ⟨rfl, k2⟩
  go_wp2_with fail
  refine (HF.out.h3 _).mono ?_
  rintro e W3 ⟨rfl, k3⟩
  go_wp2_with fail
  refine (HF.out.h5 _).mono ?_
  rintro e W4 ⟨rfl, k4⟩
  go_wp2_with fail
  refine (HF.out.h6 _).mono ?_
  rintro e W5 ⟨rfl, k5⟩
  go_wp2_with fail
  refine (HF.out.h4 _).mono ?_
  rintro e W6 ⟨rfl, k6⟩
  have k := ((((k1.trans k2).trans k3).trans k4).trans k5).trans k6
  clear k1 k2 k3 k4 k5 k6
  go_wp2_with fail
  refine (works_ok _).mono ?_
  rintro e W7 ⟨rfl, k7⟩
  go_wp2_with fail
  go_ret
  exact ⟨rfl, (k.trans k7).below⟩

set_option maxRecDepth 1000000 in
set_option maxHeartbeats 8000000 in
theorem sorts_16_16_0_0_0 {s t u : ByteArray} (H : SortFacts s t u 0 0 0 16 16) (w : World) : Calls Try.prog 12 #[.string s, .string t, .string u] w fun e w' => e = .returned (.bool true) ∧ Below w.heap.size w w' := by
  have HF := Lib.hid H
  have l1 := H.ls
  have l2 := H.lt
  have l3 := H.lu
  clear H
  go_enter Try.func12, Try.ntmps12
  go_wp2_with fail
  refine (HF.out.h1 _).mono ?_
  rintro e W1 ⟨rfl, k1⟩
  go_wp2_with fail
  refine (HF.out.h2 _).mono ?_
  rintro e W2 ⟨rfl, k2⟩
  go_wp2_with fail
  refine (HF.out.h3 _).mono ?_
  rintro e W3 ⟨rfl, k3⟩
  go_wp2_with fail
  refine (HF.out.h5 _).mono ?_
  rintro e W4 ⟨rfl, k4⟩
  go_wp2_with fail
  refine (HF.out.h6 _).mono ?_
  rintro e W5 ⟨rfl, k5⟩
  go_wp2_with fail
  refine (HF.out.h4 _).mono ?_
  rintro e W6 ⟨rfl, k6⟩
  have k := ((((k1.trans k2).trans k3).trans k4).trans k5).trans k6
  clear k1 k2 k3 k4 k5 k6
  go_wp2_with fail
  refine (works_ok _).mono ?_
  rintro e W7 ⟨rfl, k7⟩
  go_wp2_with fail
  go_ret
  exact ⟨rfl, (k.trans k7).below⟩

set_option maxRecDepth 1000000 in
set_option maxHeartbeats 8000000 in
theorem sorts_16_16_0_0_m1 {s t u : ByteArray} (H : SortFacts s t u 0 0 (-1) 16 16) (w : World) : Calls Try.prog 12 #[.string s, .string t, .string u] w fun e w' => e = .returned (.bool true) ∧ Below w.heap.size w w' := by
  have HF := Lib.hid H
  have l1 := H.ls
  have l2 := H.lt
  have l3 := H.lu
  clear H
  go_enter Try.func12, Try.ntmps12
  go_wp2_with fail
  refine (HF.out.h1 _).mono ?_
  rintro e W1 ⟨rfl, k1⟩
  go_wp2_with fail
  refine (HF.out.h2 _).mono ?_
  rintro e W2 ⟨rfl, k2⟩
  go_wp2_with fail
  refine (HF.out.h3 _).mono ?_
  rintro e W3 ⟨rfl, k3⟩
  go_wp2_with fail
  refine (HF.out.h5 _).mono ?_
  rintro e W4 ⟨rfl, k4⟩
  go_wp2_with fail
  refine (HF.out.h6 _).mono ?_
  rintro e W5 ⟨rfl, k5⟩
  go_wp2_with fail
  refine (HF.out.h4 _).mono ?_
  rintro e W6 ⟨rfl, k6⟩
  have k := ((((k1.trans k2).trans k3).trans k4).trans k5).trans k6
  clear k1 k2 k3 k4 k5 k6
  go_wp2_with fail
  refine (works_ok _).mono ?_
  rintro e W7 ⟨rfl, k7⟩
  go_wp2_with fail
  go_ret
  exact ⟨rfl, (k.trans k7).below⟩

set_option maxRecDepth 1000000 in
set_option maxHeartbeats 8000000 in
theorem sorts_16_16_0_m1_m1 {s t u : ByteArray} (H : SortFacts s t u 0 (-1) (-1) 16 16) (w : World) : Calls Try.prog 12 #[.string s, .string t, .string u] w fun e w' => e = .returned (.bool true) ∧ Below w.heap.size w w' := by
  have HF := Lib.hid H
  have l1 := H.ls
  have l2 := H.lt
  have l3 := H.lu
  clear H
  go_enter Try.func12, Try.ntmps12
  go_wp2_with fail
  refine (HF.out.h1 _).mono ?_
  rintro e W1 ⟨rfl, k1⟩
  go_wp2_with fail
  refine (HF.out.h2 _).mono ?_
  rintro e W2 ⟨rfl, k2⟩
  go_wp2_with fail
  refine (HF.out.h3 _).mono ?_
  rintro e W3 ⟨rfl, k3⟩
  go_wp2_with fail
  refine (HF.out.h5 _).mono ?_
  rintro e W4 ⟨rfl, k4⟩
  go_wp2_with fail
  refine (HF.out.h6 _).mono ?_
  rintro e W5 ⟨rfl, k5⟩
  go_wp2_with fail
  refine (HF.out.h4 _).mono ?_
  rintro e W6 ⟨rfl, k6⟩
  have k := ((((k1.trans k2).trans k3).trans k4).trans k5).trans k6
  clear k1 k2 k3 k4 k5 k6
  go_wp2_with fail
  refine (works_ok _).mono ?_
  rintro e W7 ⟨rfl, k7⟩
  go_wp2_with fail
  go_ret
  exact ⟨rfl, (k.trans k7).below⟩

end Go.Proofs.Ytkbelhhimllfnaa
